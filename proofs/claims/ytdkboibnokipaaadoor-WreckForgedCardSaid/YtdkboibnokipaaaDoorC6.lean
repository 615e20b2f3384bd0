/- What the claim leans on, text 6. -/
import Derived.WalkKit
import Derived.BigCall
import Derived.Test.YtdkboibnokipaaaDoorC5
set_option linter.unusedSimpArgs false
set_option linter.unusedVariables false
set_option maxRecDepth 100000
set_option maxHeartbeats 16000000

namespace Go.Ow
open Go Go.RowKit Go.Pm
theorem pl_ne {a b : Pl} (h : a ≠ b) : ¬ ((a.1 : Int) = b.1 ∧ (a.2.1 : Int) = b.2.1 ∧ (a.2.2 : Int) = b.2.2) := fun e => h (by
 obtain ⟨a1, a2, a3⟩ := a
 obtain ⟨b1, b2, b3⟩ := b
 simp only at e
 rw [show a1 = b1 by omega, show a2 = b2 by omega, show a3 = b3 by omega])
theorem dig_at {n : Nat} {g : List Int} (h : digOk n g) (k : Nat) : ∃ e : Nat, g.getD k 0 = (e : Int) ∧ e < 10 := ⟨(g.getD k 0).toNat, by have := h.2 k; omega, by have := h.2 k; omega⟩
theorem dig4 {a0 a1 a2 a3 : Pl} {g : List Int} (h : digOk [a0, a1, a2, a3].length g) : ∃ e0 e1 e2 e3 : Nat, g = [(e0 : Int), (e1 : Int), (e2 : Int), (e3 : Int)] ∧ e0 < 10 ∧ e1 < 10 ∧ e2 < 10 ∧ e3 < 10 := by
 have hl : g.length = 4 := h.1
 match g, hl with
 | [x0, x1, x2, x3], _ =>
  obtain ⟨e0, q0, r0⟩ := dig_at h 0
  change x0 = _ at q0
  obtain ⟨e1, q1, r1⟩ := dig_at h 1
  change x1 = _ at q1
  obtain ⟨e2, q2, r2⟩ := dig_at h 2
  change x2 = _ at q2
  obtain ⟨e3, q3, r3⟩ := dig_at h 3
  change x3 = _ at q3
  exact ⟨e0, e1, e2, e3, by rw [q0, q1, q2, q3], r0, r1, r2, r3⟩
theorem zer_at {e : Nat} (h : e < 10) : ([.t (.int .i64 0), .t (.int .i64 0), .t (.int .i64 0), .t (.int .i64 0), .t (.int .i64 0), .t (.int .i64 0), .t (.int .i64 0), .t (.int .i64 0), .t (.int .i64 0), .t (.int .i64 0)] : List PV)[e]? = some (.t (.int .i64 0)) := by
 have := cntC_at [] 0 h
 rw [cntC_nil] at this
 exact this
theorem zer_set (g : List Int) (k : Nat) {e : Nat} (h : e < 10) (hg : g.getD k 0 = (e : Int)) : List.take e ([.t (.int .i64 0), .t (.int .i64 0), .t (.int .i64 0), .t (.int .i64 0), .t (.int .i64 0), .t (.int .i64 0), .t (.int .i64 0), .t (.int .i64 0), .t (.int .i64 0), .t (.int .i64 0)] : List PV) ++ [.t (.int .i64 1)] ++ List.drop e [.t (.int .i64 0), .t (.int .i64 0), .t (.int .i64 0), .t (.int .i64 0), .t (.int .i64 0), .t (.int .i64 0), .t (.int .i64 0), .t (.int .i64 0), .t (.int .i64 0)] = cntC [g] k := by
 have := cntC_set [] g k h hg
 rw [List.set_eq_take_append_cons_drop, if_pos (by rw [cntC_len]; exact h), cntC_nil] at this
 rw [List.append_assoc]
 exact this
theorem cnt_set (ys : List (List Int)) (g : List Int) (k : Nat) {e : Nat} (h : e < 10) (hg : g.getD k 0 = (e : Int)) : List.take e (cntC ys k) ++ [.t (.int .i64 ((cntD ys k (e : Int) + 1 : Nat) : Int))] ++ List.drop (e + 1) (cntC ys k) = cntC (ys ++ [g]) k := by
 rw [← cntC_set ys g k h hg, List.set_eq_take_append_cons_drop, if_pos (by rw [cntC_len]; exact h), List.append_assoc]; rfl
theorem cnt_wrap {ys : List (List Int)} (k : Nat) (d : Int) (h : ys.length ≤ 100000) : IntKind.i64.wrap ((cntD ys k d : Int) + 1) = ((cntD ys k d + 1 : Nat) : Int) := by
 have := cntD_le ys k d
 rw [wrap_in (by omega) (by omega)]; omega
end Go.Ow
namespace Go.Proofs.YtdkboibnokipaaaDoor
open Go.RowKit Go.Pm Go.Ow
theorem und_pp : Tryd.prog.underlying 107 = some (.pointer 98) := by kernel_rfl
theorem w11 : IntKind.i64.wrap 1 = 1 := by decide
theorem key_pp (a b c : Int) : keyOk Tryd.prog 106 (.agg [.int .i64 a, .int .i64 b, .int .i64 c]) = true := by kernel_rfl
theorem wAsk4_c {s : TV} {p : List (List ByteArray)} (hs : pgR s p) (hv : validB p = true) {a0 a1 a2 a3 : Pl} (hL : placesP p = [a0, a1, a2, a3]) (ne01 : a0 ≠ a1) (ne02 : a0 ≠ a2) (ne03 : a0 ≠ a3) (ne12 : a1 ≠ a2) (ne13 : a1 ≠ a3) (ne23 : a2 ≠ a3) : PCalls Tryd.prog 19 [s] (askT p) := by
 have hll : (placesP p).length ≤ 5 := by rw [places_len]; exact (valid_len hv).2
 have hsp := spW2_ok hs hv
 have hsz : (readG p).length ≤ 100000 := readG_size hll
 obtain ⟨R, hR⟩ : ∃ R, askT p = R := ⟨_, rfl⟩
 rw [hR]
 unfold askT at hR
 rw [hL] at hR
 have nf01 := pl_ne ne01
 have nf10 := pl_ne (Ne.symm ne01)
 have nf02 := pl_ne ne02
 have nf20 := pl_ne (Ne.symm ne02)
 have nf03 := pl_ne ne03
 have nf30 := pl_ne (Ne.symm ne03)
 have nf12 := pl_ne ne12
 have nf21 := pl_ne (Ne.symm ne12)
 have nf13 := pl_ne ne13
 have nf31 := pl_ne (Ne.symm ne13)
 have nf23 := pl_ne ne23
 have nf32 := pl_ne (Ne.symm ne23)
 have hT : lostT [a0, a1, a2, a3] = .sl (plC a0 ++ (plC a1 ++ (plC a2 ++ (plC a3)))) 4 false := rfl
 have hcw : ∀ (l : List PO) (ys : List (List Int)) (k : Nat), cellsW l (cntC ys k) (cntC ys k) := fun l ys k => cellsW_ts l _
 have hau : ∀ (m : Nat) (ys : List (List Int)) (k : Nat), (cntC ys k).all (PV.under m) = true := fun m ys k => all_ts m _
 refine pcalls_by Tryd.mixes hsp (fn := Tryd.f19) Tryd.func19 rfl (by kernel_rfl) (by show 1 ≤ _; decide) ?_
 simp +decide -implicitDefEqProofs (maxSteps := 4000000) only [go_sem, Tryd.f19, hL]
 refine pwpC_rangeY rfl 82 [7] [7, 2] [7, 2] ((readG p).map fun g => [dgT g]) [(2, .ptr 0 0), (3, .t (.int .i64 0)), (4, .t (.int .i64 0)), (5, .ptr 3 0), (6, .gptr 5 0 0), (7, .ptr 6 0), (27, .fnc 82 [7])]
   [.box [.t (.int .i64 0), .t (.int .i64 0), .t (.int .i64 0)], .box [.junk, .junk, .junk], .mp 84 (mapD fun _ => none), .box [.t s, .t (lostT [a0, a1, a2, a3]), .mapr 2], .mpk 106 [] [], .grow 0 [.mapr 4] 106 1, .box [.t (.int .i64 0)], .box [.t s, .t (lostT [a0, a1, a2, a3]), .mapr 2]]
   (fun i => if i = 0 then [.box [.t (.int .i64 0), .t (.int .i64 0), .t (.int .i64 0)], .box [.junk, .junk, .junk], .res, .box [.t s, .t (lostT [a0, a1, a2, a3]), .junk], .mpk 106 [] [], .grow 0 [.mapr 4] 106 1, .box [.t (.int .i64 0)], .res] else
    [.box [.t (.int .i64 0), .t (.int .i64 0), .t (.int .i64 0)], .box [.junk, .junk, .junk], .res, .box [.t s, .t (lostT [a0, a1, a2, a3]), .junk], .mpk 106 [plT a0, plT a1, plT a2, plT a3] [.ptr 8 0, .ptr 9 0, .ptr 10 0, .ptr 11 0], .grow 0 [.mapr 4] 106 1, .box [.t (.int .i64 i)], .res, .box (cntC ((readG p).take i) 0), .box (cntC ((readG p).take i) 1), .box (cntC ((readG p).take i) 2), .box (cntC ((readG p).take i) 3)]) 12 (readG p).length false .normal ?_ (by rfl) (by rfl) (by rfl) ?_ ?_ ?_ ?_ ?_ ?_ ?_ ?_ ?_ ?_
 ·simp +decide -implicitDefEqProofs (maxSteps := 4000000) only [go_sem]
 ·rfl
 ·rfl
 ·exact ⟨_, Tryd.func82, rfl, rfl⟩
 ·intro l
  obtain ⟨D', h⟩ := wReadY_c hs hv ⟨l, (readG p).map fun g => [dgT g], (readG p).length, false⟩ rfl ⟨fun i g hg => by
   rw [Nat.zero_add]
   show ((readG p).map fun g => [dgT g])[i]? = _
   rw [List.getElem?_map, hg]; rfl, by show 0 + (readG p).length ≤ (readG p).length; omega⟩
  rw [hL] at h
  exact ⟨_, _, h, rfl⟩
 ·intro x hx
  obtain ⟨g, _, rfl⟩ := List.mem_map.1 hx
  rfl
 ·intro _
  exact ⟨(List.length_map _).symm, rfl⟩
 ·intro h; cases h
 ·intro i
  by_cases h : i = 0
  ·simp only [h, if_true]; show 8 ≤ 12; decide
  ·simp only [h, if_false]; exact Nat.le_refl _
 ·intro i x hi hx
  rw [List.getElem?_map, Option.map_eq_some_iff] at hx
  obtain ⟨g, hg, rfl⟩ := hx
  have hdg := readG_dig (List.mem_of_getElem? hg)
  rw [hL] at hdg
  have hts := take_snoc hg
  have hi1 := Go.Pm.wS (k := i) (by omega)
  obtain ⟨e0, e1, e2, e3, rfl, he0, he1, he2, he3⟩ := dig4 hdg
  have he0' : (e0 : Int) < 10 := by omega
  have ge0 : e0 ≤ 9 := by omega
  have he1' : (e1 : Int) < 10 := by omega
  have ge1 : e1 ≤ 9 := by omega
  have he2' : (e2 : Int) < 10 := by omega
  have ge2 : e2 ≤ 9 := by omega
  have he3' : (e3 : Int) < 10 := by omega
  have ge3 : e3 ≤ 9 := by omega
  have hg1 : dgT [(e0 : Int), (e1 : Int), (e2 : Int), (e3 : Int)] = .sl [.int .i64 e0, .int .i64 e1, .int .i64 e2, .int .i64 e3] 4 true := rfl
  by_cases h0 : i = 0
  ·subst h0
   rw [List.take_zero, List.nil_append] at hts
   have z0 := zer_at he0
   have y0 := zer_set [(e0 : Int), (e1 : Int), (e2 : Int), (e3 : Int)] 0 he0 rfl
   have z1 := zer_at he1
   have y1 := zer_set [(e0 : Int), (e1 : Int), (e2 : Int), (e3 : Int)] 1 he1 rfl
   have z2 := zer_at he2
   have y2 := zer_set [(e0 : Int), (e1 : Int), (e2 : Int), (e3 : Int)] 2 he2 rfl
   have z3 := zer_at he3
   have y3 := zer_set [(e0 : Int), (e1 : Int), (e2 : Int), (e3 : Int)] 3 he3 rfl
   simp +decide -implicitDefEqProofs (maxSteps := 4000000) only [go_sem, hg1]
   refine pwpC_loopU (A := { k : Nat // k ≤ 4 }) [5, 6, 31, 32] (fun k => [(33, .t (.int .i64 k.1))]) (fun k => match k.1 with | 0 => [(4, .mpk 106 [] [])] | 1 => [(4, .mpk 106 [plT a0] [.ptr 8 0]), (8, .box (cntC [[(e0 : Int), (e1 : Int), (e2 : Int), (e3 : Int)]] 0))] | 2 => [(4, .mpk 106 [plT a0, plT a1] [.ptr 8 0, .ptr 9 0]), (8, .box (cntC [[(e0 : Int), (e1 : Int), (e2 : Int), (e3 : Int)]] 0)), (9, .box (cntC [[(e0 : Int), (e1 : Int), (e2 : Int), (e3 : Int)]] 1))] | 3 => [(4, .mpk 106 [plT a0, plT a1, plT a2] [.ptr 8 0, .ptr 9 0, .ptr 10 0]), (8, .box (cntC [[(e0 : Int), (e1 : Int), (e2 : Int), (e3 : Int)]] 0)), (9, .box (cntC [[(e0 : Int), (e1 : Int), (e2 : Int), (e3 : Int)]] 1)), (10, .box (cntC [[(e0 : Int), (e1 : Int), (e2 : Int), (e3 : Int)]] 2))] | _ => [(4, .mpk 106 [plT a0, plT a1, plT a2, plT a3] [.ptr 8 0, .ptr 9 0, .ptr 10 0, .ptr 11 0]), (8, .box (cntC [[(e0 : Int), (e1 : Int), (e2 : Int), (e3 : Int)]] 0)), (9, .box (cntC [[(e0 : Int), (e1 : Int), (e2 : Int), (e3 : Int)]] 1)), (10, .box (cntC [[(e0 : Int), (e1 : Int), (e2 : Int), (e3 : Int)]] 2)), (11, .box (cntC [[(e0 : Int), (e1 : Int), (e2 : Int), (e3 : Int)]] 3))]) (fun k => 4 - k.1) ⟨0, by omega⟩ (by decide) (fun _ => by rfl) ?_ fun Q1 hQ1 ⟨k, hk⟩ I1 hI1 => ?_
   ·simp +decide -implicitDefEqProofs (maxSteps := 4000000) only [go_sem, w11]
   ·rcases (by omega : k = 0 ∨ k = 1 ∨ k = 2 ∨ k = 3 ∨ k = 4) with rfl | rfl | rfl | rfl | rfl
    ·simp +decide -implicitDefEqProofs (maxSteps := 4000000) only [go_sem, hT, plC, plT, he0', Nat.mul_one, key_pp, und_pp, w11, z0, y0, ge0, hcw, hau]
     refine hI1 _ ⟨1, by omega⟩ (by simp only; omega) ?_
     simp +decide -implicitDefEqProofs (maxSteps := 4000000) only [go_sem, hT, plC, plT, hcw, hau, w11]
    ·simp +decide -implicitDefEqProofs (maxSteps := 4000000) only [go_sem, hT, plC, plT, he1', Nat.mul_one, key_pp, und_pp, w11, z1, y1, ge1, hcw, hau, nf01]
     refine hI1 _ ⟨2, by omega⟩ (by simp only; omega) ?_
     simp +decide -implicitDefEqProofs (maxSteps := 4000000) only [go_sem, hT, plC, plT, hcw, hau, w11]
    ·simp +decide -implicitDefEqProofs (maxSteps := 4000000) only [go_sem, hT, plC, plT, he2', Nat.mul_one, key_pp, und_pp, w11, z2, y2, ge2, hcw, hau, nf02, nf12]
     refine hI1 _ ⟨3, by omega⟩ (by simp only; omega) ?_
     simp +decide -implicitDefEqProofs (maxSteps := 4000000) only [go_sem, hT, plC, plT, hcw, hau, w11]
    ·simp +decide -implicitDefEqProofs (maxSteps := 4000000) only [go_sem, hT, plC, plT, he3', Nat.mul_one, key_pp, und_pp, w11, z3, y3, ge3, hcw, hau, nf03, nf13, nf23]
     refine hI1 _ ⟨4, by omega⟩ (by simp only; omega) ?_
     simp +decide -implicitDefEqProofs (maxSteps := 4000000) only [go_sem, hT, plC, plT, hcw, hau, w11]
    ·simp +decide -implicitDefEqProofs (maxSteps := 4000000) only [go_sem]
     refine hQ1 _ _ ?_
     simp +decide -implicitDefEqProofs (maxSteps := 4000000) only [go_sem, hts, hcw, hau]
  ·obtain ⟨ys, hys⟩ : ∃ ys, (readG p).take i = ys := ⟨_, rfl⟩
   rw [hys] at hts
   have hyl : ys.length ≤ 100000 := by rw [← hys, List.length_take]; omega
   have z0 := cntC_at ys 0 he0
   have y0 := cnt_set ys [(e0 : Int), (e1 : Int), (e2 : Int), (e3 : Int)] 0 he0 rfl
   have x0 := cnt_wrap 0 (e0 : Int) hyl
   have z1 := cntC_at ys 1 he1
   have y1 := cnt_set ys [(e0 : Int), (e1 : Int), (e2 : Int), (e3 : Int)] 1 he1 rfl
   have x1 := cnt_wrap 1 (e1 : Int) hyl
   have z2 := cntC_at ys 2 he2
   have y2 := cnt_set ys [(e0 : Int), (e1 : Int), (e2 : Int), (e3 : Int)] 2 he2 rfl
   have x2 := cnt_wrap 2 (e2 : Int) hyl
   have z3 := cntC_at ys 3 he3
   have y3 := cnt_set ys [(e0 : Int), (e1 : Int), (e2 : Int), (e3 : Int)] 3 he3 rfl
   have x3 := cnt_wrap 3 (e3 : Int) hyl
   have ht9 := cntC_len ys
   simp +decide -implicitDefEqProofs (maxSteps := 4000000) only [go_sem, h0, hg1, hi1, hys]
   refine pwpC_loopU (A := { k : Nat // k ≤ 4 }) [5, 6, 31, 32] (fun k => [(33, .t (.int .i64 k.1))]) (fun k => match k.1 with | 0 => [] | 1 => [(8, .box (cntC (ys ++ [[(e0 : Int), (e1 : Int), (e2 : Int), (e3 : Int)]]) 0))] | 2 => [(8, .box (cntC (ys ++ [[(e0 : Int), (e1 : Int), (e2 : Int), (e3 : Int)]]) 0)), (9, .box (cntC (ys ++ [[(e0 : Int), (e1 : Int), (e2 : Int), (e3 : Int)]]) 1))] | 3 => [(8, .box (cntC (ys ++ [[(e0 : Int), (e1 : Int), (e2 : Int), (e3 : Int)]]) 0)), (9, .box (cntC (ys ++ [[(e0 : Int), (e1 : Int), (e2 : Int), (e3 : Int)]]) 1)), (10, .box (cntC (ys ++ [[(e0 : Int), (e1 : Int), (e2 : Int), (e3 : Int)]]) 2))] | _ => [(8, .box (cntC (ys ++ [[(e0 : Int), (e1 : Int), (e2 : Int), (e3 : Int)]]) 0)), (9, .box (cntC (ys ++ [[(e0 : Int), (e1 : Int), (e2 : Int), (e3 : Int)]]) 1)), (10, .box (cntC (ys ++ [[(e0 : Int), (e1 : Int), (e2 : Int), (e3 : Int)]]) 2)), (11, .box (cntC (ys ++ [[(e0 : Int), (e1 : Int), (e2 : Int), (e3 : Int)]]) 3))]) (fun k => 4 - k.1) ⟨0, by omega⟩ (by decide) (fun _ => by rfl) ?_ fun Q1 hQ1 ⟨k, hk⟩ I1 hI1 => ?_
   ·simp +decide -implicitDefEqProofs (maxSteps := 4000000) only [go_sem, hcw, hau]
   ·rcases (by omega : k = 0 ∨ k = 1 ∨ k = 2 ∨ k = 3 ∨ k = 4) with rfl | rfl | rfl | rfl | rfl
    ·simp +decide -implicitDefEqProofs (maxSteps := 4000000) only [go_sem, hT, plC, plT, he0', Nat.mul_one, key_pp, und_pp, z0, x0, y0, ge0, ht9, hcw, hau]
     refine hI1 _ ⟨1, by omega⟩ (by simp only; omega) ?_
     simp +decide -implicitDefEqProofs (maxSteps := 4000000) only [go_sem, hT, plC, plT, hcw, hau]
    ·simp +decide -implicitDefEqProofs (maxSteps := 4000000) only [go_sem, hT, plC, plT, he1', Nat.mul_one, key_pp, und_pp, z1, x1, y1, ge1, ht9, hcw, hau, nf01]
     refine hI1 _ ⟨2, by omega⟩ (by simp only; omega) ?_
     simp +decide -implicitDefEqProofs (maxSteps := 4000000) only [go_sem, hT, plC, plT, hcw, hau]
    ·simp +decide -implicitDefEqProofs (maxSteps := 4000000) only [go_sem, hT, plC, plT, he2', Nat.mul_one, key_pp, und_pp, z2, x2, y2, ge2, ht9, hcw, hau, nf02, nf12]
     refine hI1 _ ⟨3, by omega⟩ (by simp only; omega) ?_
     simp +decide -implicitDefEqProofs (maxSteps := 4000000) only [go_sem, hT, plC, plT, hcw, hau]
    ·simp +decide -implicitDefEqProofs (maxSteps := 4000000) only [go_sem, hT, plC, plT, he3', Nat.mul_one, key_pp, und_pp, z3, x3, y3, ge3, ht9, hcw, hau, nf03, nf13, nf23]
     refine hI1 _ ⟨4, by omega⟩ (by simp only; omega) ?_
     simp +decide -implicitDefEqProofs (maxSteps := 4000000) only [go_sem, hT, plC, plT, hcw, hau]
    ·simp +decide -implicitDefEqProofs (maxSteps := 4000000) only [go_sem]
     refine hQ1 _ _ ?_
     simp +decide -implicitDefEqProofs (maxSteps := 4000000) only [go_sem, hts, hi1, hcw, hau]
 ·by_cases h0 : (readG p).length = 0
  ·rw [if_pos h0] at hR
   subst hR
   rw [h0]
   simp +decide -implicitDefEqProofs (maxSteps := 4000000) only [go_sem]
  ·rw [if_neg h0] at hR
   have hz : (((readG p).length : Int) == 0) = false := by simp; exact List.ne_nil_of_length_pos (by omega)
   by_cases h1 : (readG p).length = 1
   ·rw [if_pos h1] at hR
    subst hR
    rw [h1]
    simp +decide -implicitDefEqProofs (maxSteps := 4000000) only [go_sem]
   ·rw [if_neg h1] at hR
    have hz1 : (((readG p).length : Int) == 1) = false := by simp; omega
    rw [List.take_length]
    obtain ⟨ys, hys⟩ : ∃ ys, readG p = ys := ⟨_, rfl⟩
    rw [hys] at hR h0 hz hz1 hsz ⊢
    have hmo := fun k => mostTo_le ys k 10
    simp +decide -implicitDefEqProofs (maxSteps := 4000000) only [go_sem, h0, hz, hz1, hT, plC]
    refine pwpC_loopU (A := { k : Nat // k ≤ 4 }) [2, 6, 77, 78] (fun k => [(79, .t (.int .i64 k.1)), (3, .t (.int .i64 (askTo ys [a0, a1, a2, a3] k.1).2))]) (fun k => [(0, .box ((plC (askTo ys [a0, a1, a2, a3] k.1).1).map .t))]) (fun k => 4 - k.1) ⟨0, by omega⟩ (by decide) (fun _ => by rfl) ?_ fun Q1 hQ1 ⟨k, hk⟩ I1 hI1 => ?_
    ·simp +decide -implicitDefEqProofs (maxSteps := 4000000) only [go_sem, askTo, plC, hcw, hau]
    ·obtain ⟨⟨at0, left⟩, hat⟩ : ∃ q, askTo ys [a0, a1, a2, a3] k = q := ⟨_, rfl⟩
     have has : askTo ys [a0, a1, a2, a3] (k + 1) = if left = 0 ∨ mostTo ys k 10 < left then ([a0, a1, a2, a3].getD k (0, 0, 0), mostTo ys k 10) else (at0, left) := by
      show (if _ then _ else _) = _
      rw [hat]
     rcases (by omega : k = 0 ∨ k = 1 ∨ k = 2 ∨ k = 3 ∨ k = 4) with rfl | rfl | rfl | rfl | rfl
     ·simp only [hat]
      simp +decide -implicitDefEqProofs (maxSteps := 4000000) only [go_sem, plC, plT, key_pp]
      refine pwpC_loopU (A := { d : Nat // d ≤ 10 }) [2, 3, 6, 12, 77, 78, 79, 85] (fun d => [(86, .t (.int .i64 d.1)), (13, .t (.int .i64 (mostTo ys 0 d.1)))]) (fun _ => []) (fun d => 10 - d.1) ⟨0, by omega⟩ (by decide) (fun _ => by rfl) ?_ fun Q2 hQ2 ⟨d, hd⟩ I2 hI2 => ?_
      ·simp +decide -implicitDefEqProofs (maxSteps := 4000000) only [go_sem, mostTo, plT, plC, hcw, hau]
      ·by_cases hlt : (d : Int) < 10
       ·have hd1 := Go.Pm.wS (k := d) (by omega)
        have z := cntC_at ys 0 (show d < 10 by omega)
        have hmx : max (mostTo ys 0 d : Int) (cntD ys 0 (d : Int)) = ((mostTo ys 0 (d + 1) : Nat) : Int) := by
         show _ = ((max (mostTo ys 0 d) (cntD ys 0 (d : Int)) : Nat) : Int)
         omega
        simp +decide -implicitDefEqProofs (maxSteps := 4000000) only [go_sem, hlt, z, hmx]
        refine hI2 _ ⟨d + 1, by omega⟩ (by simp only; omega) ?_
        simp +decide -implicitDefEqProofs (maxSteps := 4000000) only [go_sem, hd1, plT, plC, hcw, hau]
       ·have hde : d = 10 := by omega
        subst hde
        simp +decide -implicitDefEqProofs (maxSteps := 4000000) only [go_sem]
        refine hQ2 _ _ ?_
        have hm0 := hmo 0
        by_cases hl0 : left = 0
        ·rw [if_pos (.inl hl0)] at has
         subst hl0
         simp +decide -implicitDefEqProofs (maxSteps := 4000000) only [go_sem, plC]
         refine hI1 _ ⟨1, by omega⟩ (by simp only; omega) ?_
         simp +decide -implicitDefEqProofs (maxSteps := 4000000) only [go_sem, has, plC, plT, hcw, hau]
        ·have hl0' : ((left : Int) == 0) = false := by simp; exact hl0
         by_cases hlm : mostTo ys 0 10 < left
         ·rw [if_pos (.inr hlm)] at has
          have hlm' : ((mostTo ys 0 10 : Nat) : Int) < (left : Int) := by omega
          simp +decide -implicitDefEqProofs (maxSteps := 4000000) only [go_sem, plC, hl0', hlm']
          refine hI1 _ ⟨1, by omega⟩ (by simp only; omega) ?_
          simp +decide -implicitDefEqProofs (maxSteps := 4000000) only [go_sem, has, plC, plT, hcw, hau]
         ·rw [if_neg (fun h => h.elim hl0 hlm)] at has
          have hlm' : ¬ ((mostTo ys 0 10 : Nat) : Int) < (left : Int) := by omega
          simp +decide -implicitDefEqProofs (maxSteps := 4000000) only [go_sem, plC, hl0', hlm']
          refine hI1 _ ⟨1, by omega⟩ (by simp only; omega) ?_
          simp +decide -implicitDefEqProofs (maxSteps := 4000000) only [go_sem, has, plC, plT, hcw, hau]
     ·simp only [hat]
      simp +decide -implicitDefEqProofs (maxSteps := 4000000) only [go_sem, plC, plT, key_pp, nf01]
      refine pwpC_loopU (A := { d : Nat // d ≤ 10 }) [2, 3, 6, 12, 77, 78, 79, 85] (fun d => [(86, .t (.int .i64 d.1)), (13, .t (.int .i64 (mostTo ys 1 d.1)))]) (fun _ => []) (fun d => 10 - d.1) ⟨0, by omega⟩ (by decide) (fun _ => by rfl) ?_ fun Q2 hQ2 ⟨d, hd⟩ I2 hI2 => ?_
      ·simp +decide -implicitDefEqProofs (maxSteps := 4000000) only [go_sem, mostTo, plT, plC, hcw, hau]
      ·by_cases hlt : (d : Int) < 10
       ·have hd1 := Go.Pm.wS (k := d) (by omega)
        have z := cntC_at ys 1 (show d < 10 by omega)
        have hmx : max (mostTo ys 1 d : Int) (cntD ys 1 (d : Int)) = ((mostTo ys 1 (d + 1) : Nat) : Int) := by
         show _ = ((max (mostTo ys 1 d) (cntD ys 1 (d : Int)) : Nat) : Int)
         omega
        simp +decide -implicitDefEqProofs (maxSteps := 4000000) only [go_sem, hlt, z, hmx]
        refine hI2 _ ⟨d + 1, by omega⟩ (by simp only; omega) ?_
        simp +decide -implicitDefEqProofs (maxSteps := 4000000) only [go_sem, hd1, plT, plC, hcw, hau]
       ·have hde : d = 10 := by omega
        subst hde
        simp +decide -implicitDefEqProofs (maxSteps := 4000000) only [go_sem]
        refine hQ2 _ _ ?_
        have hm0 := hmo 1
        by_cases hl0 : left = 0
        ·rw [if_pos (.inl hl0)] at has
         subst hl0
         simp +decide -implicitDefEqProofs (maxSteps := 4000000) only [go_sem, plC]
         refine hI1 _ ⟨2, by omega⟩ (by simp only; omega) ?_
         simp +decide -implicitDefEqProofs (maxSteps := 4000000) only [go_sem, has, plC, plT, hcw, hau]
        ·have hl0' : ((left : Int) == 0) = false := by simp; exact hl0
         by_cases hlm : mostTo ys 1 10 < left
         ·rw [if_pos (.inr hlm)] at has
          have hlm' : ((mostTo ys 1 10 : Nat) : Int) < (left : Int) := by omega
          simp +decide -implicitDefEqProofs (maxSteps := 4000000) only [go_sem, plC, hl0', hlm']
          refine hI1 _ ⟨2, by omega⟩ (by simp only; omega) ?_
          simp +decide -implicitDefEqProofs (maxSteps := 4000000) only [go_sem, has, plC, plT, hcw, hau]
         ·rw [if_neg (fun h => h.elim hl0 hlm)] at has
          have hlm' : ¬ ((mostTo ys 1 10 : Nat) : Int) < (left : Int) := by omega
          simp +decide -implicitDefEqProofs (maxSteps := 4000000) only [go_sem, plC, hl0', hlm']
          refine hI1 _ ⟨2, by omega⟩ (by simp only; omega) ?_
          simp +decide -implicitDefEqProofs (maxSteps := 4000000) only [go_sem, has, plC, plT, hcw, hau]
     ·simp only [hat]
      simp +decide -implicitDefEqProofs (maxSteps := 4000000) only [go_sem, plC, plT, key_pp, nf02, nf12]
      refine pwpC_loopU (A := { d : Nat // d ≤ 10 }) [2, 3, 6, 12, 77, 78, 79, 85] (fun d => [(86, .t (.int .i64 d.1)), (13, .t (.int .i64 (mostTo ys 2 d.1)))]) (fun _ => []) (fun d => 10 - d.1) ⟨0, by omega⟩ (by decide) (fun _ => by rfl) ?_ fun Q2 hQ2 ⟨d, hd⟩ I2 hI2 => ?_
      ·simp +decide -implicitDefEqProofs (maxSteps := 4000000) only [go_sem, mostTo, plT, plC, hcw, hau]
      ·by_cases hlt : (d : Int) < 10
       ·have hd1 := Go.Pm.wS (k := d) (by omega)
        have z := cntC_at ys 2 (show d < 10 by omega)
        have hmx : max (mostTo ys 2 d : Int) (cntD ys 2 (d : Int)) = ((mostTo ys 2 (d + 1) : Nat) : Int) := by
         show _ = ((max (mostTo ys 2 d) (cntD ys 2 (d : Int)) : Nat) : Int)
         omega
        simp +decide -implicitDefEqProofs (maxSteps := 4000000) only [go_sem, hlt, z, hmx]
        refine hI2 _ ⟨d + 1, by omega⟩ (by simp only; omega) ?_
        simp +decide -implicitDefEqProofs (maxSteps := 4000000) only [go_sem, hd1, plT, plC, hcw, hau]
       ·have hde : d = 10 := by omega
        subst hde
        simp +decide -implicitDefEqProofs (maxSteps := 4000000) only [go_sem]
        refine hQ2 _ _ ?_
        have hm0 := hmo 2
        by_cases hl0 : left = 0
        ·rw [if_pos (.inl hl0)] at has
         subst hl0
         simp +decide -implicitDefEqProofs (maxSteps := 4000000) only [go_sem, plC]
         refine hI1 _ ⟨3, by omega⟩ (by simp only; omega) ?_
         simp +decide -implicitDefEqProofs (maxSteps := 4000000) only [go_sem, has, plC, plT, hcw, hau]
        ·have hl0' : ((left : Int) == 0) = false := by simp; exact hl0
         by_cases hlm : mostTo ys 2 10 < left
         ·rw [if_pos (.inr hlm)] at has
          have hlm' : ((mostTo ys 2 10 : Nat) : Int) < (left : Int) := by omega
          simp +decide -implicitDefEqProofs (maxSteps := 4000000) only [go_sem, plC, hl0', hlm']
          refine hI1 _ ⟨3, by omega⟩ (by simp only; omega) ?_
          simp +decide -implicitDefEqProofs (maxSteps := 4000000) only [go_sem, has, plC, plT, hcw, hau]
         ·rw [if_neg (fun h => h.elim hl0 hlm)] at has
          have hlm' : ¬ ((mostTo ys 2 10 : Nat) : Int) < (left : Int) := by omega
          simp +decide -implicitDefEqProofs (maxSteps := 4000000) only [go_sem, plC, hl0', hlm']
          refine hI1 _ ⟨3, by omega⟩ (by simp only; omega) ?_
          simp +decide -implicitDefEqProofs (maxSteps := 4000000) only [go_sem, has, plC, plT, hcw, hau]
     ·simp only [hat]
      simp +decide -implicitDefEqProofs (maxSteps := 4000000) only [go_sem, plC, plT, key_pp, nf03, nf13, nf23]
      refine pwpC_loopU (A := { d : Nat // d ≤ 10 }) [2, 3, 6, 12, 77, 78, 79, 85] (fun d => [(86, .t (.int .i64 d.1)), (13, .t (.int .i64 (mostTo ys 3 d.1)))]) (fun _ => []) (fun d => 10 - d.1) ⟨0, by omega⟩ (by decide) (fun _ => by rfl) ?_ fun Q2 hQ2 ⟨d, hd⟩ I2 hI2 => ?_
      ·simp +decide -implicitDefEqProofs (maxSteps := 4000000) only [go_sem, mostTo, plT, plC, hcw, hau]
      ·by_cases hlt : (d : Int) < 10
       ·have hd1 := Go.Pm.wS (k := d) (by omega)
        have z := cntC_at ys 3 (show d < 10 by omega)
        have hmx : max (mostTo ys 3 d : Int) (cntD ys 3 (d : Int)) = ((mostTo ys 3 (d + 1) : Nat) : Int) := by
         show _ = ((max (mostTo ys 3 d) (cntD ys 3 (d : Int)) : Nat) : Int)
         omega
        simp +decide -implicitDefEqProofs (maxSteps := 4000000) only [go_sem, hlt, z, hmx]
        refine hI2 _ ⟨d + 1, by omega⟩ (by simp only; omega) ?_
        simp +decide -implicitDefEqProofs (maxSteps := 4000000) only [go_sem, hd1, plT, plC, hcw, hau]
       ·have hde : d = 10 := by omega
        subst hde
        simp +decide -implicitDefEqProofs (maxSteps := 4000000) only [go_sem]
        refine hQ2 _ _ ?_
        have hm0 := hmo 3
        by_cases hl0 : left = 0
        ·rw [if_pos (.inl hl0)] at has
         subst hl0
         simp +decide -implicitDefEqProofs (maxSteps := 4000000) only [go_sem, plC]
         refine hI1 _ ⟨4, by omega⟩ (by simp only; omega) ?_
         simp +decide -implicitDefEqProofs (maxSteps := 4000000) only [go_sem, has, plC, plT, hcw, hau]
        ·have hl0' : ((left : Int) == 0) = false := by simp; exact hl0
         by_cases hlm : mostTo ys 3 10 < left
         ·rw [if_pos (.inr hlm)] at has
          have hlm' : ((mostTo ys 3 10 : Nat) : Int) < (left : Int) := by omega
          simp +decide -implicitDefEqProofs (maxSteps := 4000000) only [go_sem, plC, hl0', hlm']
          refine hI1 _ ⟨4, by omega⟩ (by simp only; omega) ?_
          simp +decide -implicitDefEqProofs (maxSteps := 4000000) only [go_sem, has, plC, plT, hcw, hau]
         ·rw [if_neg (fun h => h.elim hl0 hlm)] at has
          have hlm' : ¬ ((mostTo ys 3 10 : Nat) : Int) < (left : Int) := by omega
          simp +decide -implicitDefEqProofs (maxSteps := 4000000) only [go_sem, plC, hl0', hlm']
          refine hI1 _ ⟨4, by omega⟩ (by simp only; omega) ?_
          simp +decide -implicitDefEqProofs (maxSteps := 4000000) only [go_sem, has, plC, plT, hcw, hau]
     ·simp only [hat]
      simp +decide -implicitDefEqProofs (maxSteps := 4000000) only [go_sem]
      refine hQ1 _ _ ?_
      have hR2 : R = .tup [plT at0, .int .i64 left, .int .i64 0] := by
       rw [← hR]
       show TV.tup [plT (askTo ys [a0, a1, a2, a3] 4).1, .int .i64 (askTo ys [a0, a1, a2, a3] 4).2, .int .i64 0] = _
       rw [hat]
      simp +decide -implicitDefEqProofs (maxSteps := 4000000) only [go_sem, hR2, plT, plC]
end Go.Proofs.YtdkboibnokipaaaDoor

namespace Go.Ow
open Go Go.RowKit Go.Pm
def plLt (a b : Pl) : Prop := a.1 < b.1 ∨ (a.1 = b.1 ∧ (a.2.1 < b.2.1 ∨ (a.2.1 = b.2.1 ∧ a.2.2 < b.2.2)))
theorem pw_flat {f : Nat → List Pl} {R : Pl → Pl → Prop} (h1 : ∀ i, (f i).Pairwise R) (h2 : ∀ i j a b, i < j → a ∈ f i → b ∈ f j → R a b) : ∀ n, ((List.range n).flatMap f).Pairwise R
 | 0 => List.Pairwise.nil
 | n + 1 => by
  rw [List.range_succ, List.flatMap_append, List.pairwise_append]
  refine ⟨pw_flat h1 h2 n, by simpa using h1 n, fun a ha b hb => ?_⟩
  rw [List.mem_flatMap] at ha
  obtain ⟨i, hi, ha⟩ := ha
  rw [List.mem_range] at hi
  exact h2 i n a b hi ha (by simpa using hb)
theorem upS_pw (i k : Nat) (s : ByteArray) (n : Nat) : (upS i k s n).Pairwise plLt := pw_flat (fun x => by split <;> simp) (fun x y a b hxy ha hb => by
 split at ha
 ·split at hb
  ·rw [List.mem_singleton] at ha hb
   subst ha; subst hb
   exact .inr ⟨rfl, .inr ⟨rfl, hxy⟩⟩
  ·cases hb
 ·cases ha) n
theorem upR_pw (i : Nat) (r : List ByteArray) (n : Nat) : (upR i r n).Pairwise plLt := pw_flat (fun x => upS_pw _ _ _ _) (fun x y a b hxy ha hb => by
 obtain ⟨h1, h2, _⟩ := mem_upS.1 ha
 obtain ⟨h3, h4, _⟩ := mem_upS.1 hb
 exact .inr ⟨by omega, .inl (by omega)⟩) n
theorem places_pw (p : List (List ByteArray)) : (placesP p).Pairwise plLt := pw_flat (fun x => upR_pw _ _ _) (fun x y a b hxy ha hb => by
 obtain ⟨h1, _⟩ := mem_upR.1 ha
 obtain ⟨h3, _⟩ := mem_upR.1 hb
 exact .inl (by omega)) _
theorem plLt_ne {a b : Pl} (h : plLt a b) : a ≠ b := by
 rintro rfl
 unfold plLt at h
 omega
end Go.Ow
namespace Go.Proofs.YtdkboibnokipaaaDoor
open Go.RowKit Go.Pm Go.Ow
end Go.Proofs.YtdkboibnokipaaaDoor

namespace Go.Ow
open Go Go.Pm
structure WRec where
 kind : Int
 day : Int
 num : Int
 by_ : ByteArray
 new : Int
def recT (r : WRec) : List TV := [.int .i64 r.kind, .int .i64 r.day, .int .i64 r.num, .str r.by_, .int .i64 r.new]
def recL (l : List WRec) : List TV := l.flatMap recT
theorem recL_cons (r : WRec) (l : List WRec) : recL (r :: l) = recT r ++ recL l := by simp [recL]
theorem recL_drop : ∀ (l : List WRec) (k : Nat), (recL l).drop (k * 5) = recL (l.drop k)
 | l, 0 => by simp
 | [], k + 1 => by simp [recL]
 | r :: l, k + 1 => by
  rw [recL_cons, List.drop_succ_cons, ← recL_drop l k]
  have e : (k + 1) * 5 = 5 + k * 5 := by omega
  rw [e, ← List.drop_drop]
  rfl
theorem recL_at {l : List WRec} {k : Nat} {r : WRec} (h : l[k]? = some r) : (recL l).drop (k * 5) = recT r ++ recL (l.drop (k + 1)) := by
 rw [recL_drop]
 have hk := (List.getElem?_eq_some_iff.1 h).1
 rw [List.drop_eq_getElem_cons hk, recL_cons]
 have := List.getElem?_eq_getElem hk
 rw [h] at this
 rw [← Option.some.inj this]
theorem recL_len (l : List WRec) : (recL l).length = l.length * 5 := by
 induction l with
 | nil => rfl
 | cons r l ih => rw [recL_cons, List.length_append, ih]; simp [recT]; omega
def metP (l : List WRec) (n : Int) : Bool := l.any fun r => r.num == n || r.new == n
end Go.Ow
namespace Go.Proofs.YtdkboibnokipaaaDoor
open Go.RowKit Go.Pm Go.Ow
theorem wMet_c (l : List WRec) (f : Bool) (n : Int) (b : Nat) (hb : b ≤ l.length) (hl : l.length ≤ 1000000) : PCalls Tryd.prog 166 [.sl (recL l) l.length f, .int .i64 n, .int .i64 b] (.bool (metP (l.take b) n)) := by
 refine pcalls_by Tryd.mixes noSpec_ok (fn := Tryd.f166) Tryd.func166 rfl (by kernel_rfl) (by show 3 ≤ _; decide) ?_
 have h1 : (b : Int) ≤ l.length := by omega
 have h2 := recL_len l
 have h3 : (recL l).take (b * 5) = recL (l.take b) := by
  have e : recL l = recL (l.take b) ++ recL (l.drop b) := by unfold recL; rw [← List.flatMap_append, List.take_append_drop]
  rw [e]
  have e2 : b * 5 = (recL (l.take b)).length := by rw [recL_len, List.length_take, Nat.min_eq_left hb]
  rw [e2, List.take_left]
 simp +decide (maxSteps := 4000000) only [go_sem, Tryd.f166, h1, h2, h3]
 have hML : (l.take b).length = b := by rw [List.length_take, Nat.min_eq_left hb]
 generalize l.take b = M at *
 refine pwpC_loopU (A := { k : Nat // k ≤ b ∧ ∀ (j : Nat) (r : WRec), j < k → M[j]? = some r → (r.num == n || r.new == n) = false }) [1, 11, 12] (fun k => [(13, .t (.int .i64 k.1))]) (fun _ => []) (fun k => b - k.1) ⟨0, Nat.zero_le _, fun j x hj => absurd hj (by omega)⟩ (by decide) (fun _ => by rfl) ?_ fun Q1 hQ1 ⟨k, hk, hall⟩ I1 hI1 => ?_
 ·simp +decide (maxSteps := 4000000) only [go_sem]
 ·by_cases hlt : (k : Int) < b
  ·obtain ⟨r, hr⟩ : ∃ r, M[k]? = some r := ⟨_, List.getElem?_eq_getElem (by omega)⟩
   have d1 := recL_at hr
   have hk1 := Go.Pm.wS (k := k) (by omega)
   cases c : (r.num == n || r.new == n) with
   | true =>
    have ea : metP M n = true := by unfold metP; rw [List.any_eq_true]; exact ⟨r, List.mem_of_getElem? hr, c⟩
    cases c1 : (r.num == n) with
    | true =>
     simp +decide (maxSteps := 4000000) only [go_sem, hlt, d1, recT, c1]
     refine hQ1 _ _ ?_
     simp +decide (maxSteps := 4000000) only [go_sem, ea]
    | false =>
     have c2 : (r.new == n) = true := by rw [c1] at c; simpa using c
     simp +decide (maxSteps := 4000000) only [go_sem, hlt, d1, recT, c1, c2]
     refine hQ1 _ _ ?_
     simp +decide (maxSteps := 4000000) only [go_sem, ea]
   | false =>
    have hc := Bool.or_eq_false_iff.1 c
    simp +decide (maxSteps := 4000000) only [go_sem, hlt, d1, recT, hc.1, hc.2, hk1]
    refine hI1 _ ⟨k + 1, by omega, fun j x hj hx => ?_⟩ (by simp only; omega) ?_
    ·rcases Nat.lt_or_ge j k with h | h
     ·exact hall j x h hx
     ·have : j = k := by omega
      subst this; rw [hr] at hx; cases hx; exact c
    ·simp +decide (maxSteps := 4000000) only [go_sem]
  ·simp +decide (maxSteps := 4000000) only [go_sem, hlt]
   refine hQ1 _ _ ?_
   have ea : metP M n = false := by
    unfold metP
    rw [List.any_eq_false]
    intro x hx
    obtain ⟨j, hj, rfl⟩ := List.getElem_of_mem hx
    simpa using hall j _ (by omega) (List.getElem?_eq_getElem hj)
   simp +decide (maxSteps := 4000000) only [go_sem, ea]
end Go.Proofs.YtdkboibnokipaaaDoor

namespace Go.Ow
open Go Go.Pm
def usedP (l : List WRec) (n : Int) : Nat → Bool
 | 0 => false
 | k + 1 => match l[k]? with
  | none => false
  | some r => if n == r.new then r.kind == 3 else if n == r.num then r.kind == 1 || r.kind == 2 else usedP l n k
end Go.Ow
namespace Go.Proofs.YtdkboibnokipaaaDoor
open Go.RowKit Go.Pm Go.Ow
theorem wUsed_c (l : List WRec) (f : Bool) (n : Int) (b : Nat) (hb : b ≤ l.length) (hl : l.length ≤ 1000000) : PCalls Tryd.prog 167 [.sl (recL l) l.length f, .int .i64 n, .int .i64 b] (.bool (usedP l n b)) := by
 refine pcalls_by Tryd.mixes (Spec.gdt_ok noSpec_ok) (fn := Tryd.f167) Tryd.func167 rfl (by kernel_rfl) (by show 3 ≤ _; decide) ?_
 have hw : IntKind.i64.wrap ((b : Int) - 1) = (b : Int) - 1 := wrap_in (by omega) (by omega)
 simp +decide (maxSteps := 4000000) only [go_sem, Tryd.f167, hw]
 refine pwpC_loopU (A := { k : Nat // k ≤ b ∧ usedP l n b = usedP l n k }) [0, 1] (fun k => [(7, .t (.int .i64 ((k.1 : Int) - 1)))]) (fun _ => []) (fun k => k.1) ⟨b, Nat.le_refl _, rfl⟩ (by decide) (fun _ => by rfl) ?_ fun Q1 hQ1 ⟨k, hk, hu⟩ I1 hI1 => ?_
 ·simp +decide (maxSteps := 4000000) only [go_sem]
 ·rw [hu] at hQ1
  cases k with
  | zero =>
   have hn : ¬ ((0 : Nat) : Int) - 1 ≥ 0 := by omega
   simp +decide (maxSteps := 4000000) only [go_sem, hn]
   refine hQ1 _ _ ?_
   simp +decide (maxSteps := 4000000) only [go_sem, usedP]
  | succ k =>
   have e1 : ((k + 1 : Nat) : Int) - 1 = (k : Int) := by omega
   have hge : (k : Int) ≥ 0 := by omega
   have hlt : (k : Int) < l.length := by omega
   have hw2 : IntKind.i64.wrap ((k : Int) - 1) = (k : Int) - 1 := wrap_in (by omega) (by omega)
   obtain ⟨r, hr⟩ : ∃ r, l[k]? = some r := ⟨_, List.getElem?_eq_getElem (by omega)⟩
   have d1 := recL_at hr
   cases c1 : (n == r.new) with
   | true =>
    have ea : usedP l n (k + 1) = (r.kind == 3) := by simp only [usedP, hr, c1, if_true]
    simp +decide (maxSteps := 4000000) only [go_sem, e1, hge, hlt, d1, recT, c1, hw2]
    refine hQ1 _ _ ?_
    simp +decide (maxSteps := 4000000) only [go_sem, ea]
   | false =>
    cases c2 : (n == r.num) with
    | true =>
     have ea : usedP l n (k + 1) = (r.kind == 1 || r.kind == 2) := by simp [usedP, hr, c1, c2]
     cases c3 : (r.kind == 1) with
     | true =>
      rw [c3, Bool.true_or] at ea
      simp +decide (maxSteps := 4000000) only [go_sem, e1, hge, hlt, d1, recT, c1, c2, c3, hw2]
      refine hQ1 _ _ ?_
      simp +decide (maxSteps := 4000000) only [go_sem, ea]
     | false =>
      rw [c3, Bool.false_or] at ea
      simp +decide (maxSteps := 4000000) only [go_sem, e1, hge, hlt, d1, recT, c1, c2, c3, hw2]
      refine hQ1 _ _ ?_
      simp +decide (maxSteps := 4000000) only [go_sem, ea]
    | false =>
     have ea : usedP l n (k + 1) = usedP l n k := by simp [usedP, hr, c1, c2]
     simp +decide (maxSteps := 4000000) only [go_sem, e1, hge, hlt, d1, recT, c1, c2, hw2]
     refine hI1 _ ⟨k, by omega, hu.trans ea⟩ (by simp only; omega) ?_
     simp +decide (maxSteps := 4000000) only [go_sem]
end Go.Proofs.YtdkboibnokipaaaDoor

namespace Go.Ow
open Go Go.Pm
def kindP (l : List WRec) (k : Nat) (r : WRec) : Bool :=
 if r.kind == 1 then nameB r.by_ && (r.new == 0 && !metP (l.take k) r.num)
 else if r.kind == 2 then nameB r.by_ && (r.new == 0 && usedP l r.num k)
 else if r.kind == 3 then decide (r.by_.size = 0) && (inW r.new 1 99999 && (r.new != r.num && (!metP (l.take k) r.new && usedP l r.num k)))
 else decide (r.by_.size = 0) && (r.new == 0 && usedP l r.num k)
def recP (l : List WRec) (k : Nat) (d : Int) (r : WRec) : Bool := inW r.kind 1 4 && (inW r.day d 100000 && (inW r.num 1 99999 && kindP l k r))
def dayB (l : List WRec) : Nat → Int
 | 0 => 0
 | k + 1 => match l[k]? with | some r => r.day | none => 0
def okTo (l : List WRec) : Nat → Bool
 | 0 => true
 | k + 1 => okTo l k && (match l[k]? with | some r => recP l k (dayB l k) r | none => false)
def bookB (l : List WRec) : Bool := decide (l.length ≤ 40) && okTo l l.length
def cur (l : List WRec) : Nat → Int → Option Nat
 | 0, _ => none
 | k + 1, n => match l[k]? with
  | none => cur l k n
  | some r => if r.kind = 1 ∧ r.num = n then some k
   else if r.kind = 3 ∧ r.new = n then cur l k r.num
   else if (r.kind = 3 ∨ r.kind = 4) ∧ r.num = n then none
   else cur l k n
structure RecOk (l : List WRec) (k : Nat) (r : WRec) : Prop where
 kind : r.kind = 1 ∨ r.kind = 2 ∨ r.kind = 3 ∨ r.kind = 4
 day : dayB l k ≤ r.day ∧ r.day ≤ 100000
 num : 1 ≤ r.num ∧ r.num ≤ 99999
 made : r.kind = 1 → nameB r.by_ = true ∧ r.new = 0 ∧ metP (l.take k) r.num = false
 mend : r.kind = 2 → nameB r.by_ = true ∧ r.new = 0 ∧ usedP l r.num k = true
 again : r.kind = 3 → r.by_.size = 0 ∧ (1 ≤ r.new ∧ r.new ≤ 99999) ∧ r.new ≠ r.num ∧ metP (l.take k) r.new = false ∧ usedP l r.num k = true
 lost : r.kind = 4 → r.by_.size = 0 ∧ r.new = 0 ∧ usedP l r.num k = true
theorem inW_iff {n a b : Int} : inW n a b = true ↔ a ≤ n ∧ n ≤ b := by unfold inW; simp
theorem recP_ok {l : List WRec} {k : Nat} {d : Int} {r : WRec} (hd : d = dayB l k) (h : recP l k d r = true) : RecOk l k r := by
 subst hd
 unfold recP kindP at h
 simp only [Bool.and_eq_true, inW_iff] at h
 obtain ⟨h1, h2, h3, h4⟩ := h
 have hk : r.kind = 1 ∨ r.kind = 2 ∨ r.kind = 3 ∨ r.kind = 4 := by omega
 refine ⟨hk, h2, h3, fun e => ?_, fun e => ?_, fun e => ?_, fun e => ?_⟩ <;> simpa [e, inW_iff] using h4
theorem ok_rec {l : List WRec} : ∀ {k : Nat}, okTo l k = true → ∀ {j : Nat} {r : WRec}, j < k → l[j]? = some r → RecOk l j r
 | 0, _, j, r, hj, _ => by omega
 | k + 1, h, j, r, hj, hr => by
  simp only [okTo, Bool.and_eq_true] at h
  rcases Nat.lt_or_ge j k with hlt | hge
  ·exact ok_rec h.1 hlt hr
  ·have : j = k := by omega
   subst this
   rw [hr] at h
   exact recP_ok rfl h.2
theorem ok_less {l : List WRec} : ∀ {k j : Nat}, okTo l k = true → j ≤ k → okTo l j = true
 | 0, j, h, hj => by rw [show j = 0 by omega]; rfl
 | k + 1, j, h, hj => by
  by_cases e : j = k + 1
  ·subst e; exact h
  ·simp only [okTo, Bool.and_eq_true] at h
   exact ok_less h.1 (by omega)
theorem ok_len {l : List WRec} : ∀ {k : Nat}, okTo l k = true → k ≤ l.length
 | 0, _ => Nat.zero_le _
 | k + 1, h => by
  simp only [okTo, Bool.and_eq_true] at h
  cases hr : l[k]? with
  | none => rw [hr] at h; exact absurd h.2 (by simp)
  | some r => have := (List.getElem?_eq_some_iff.1 hr).1; omega
theorem metP_iff {l : List WRec} {k : Nat} {n : Int} : metP (l.take k) n = true ↔ ∃ (j : Nat) (r : WRec), j < k ∧ l[j]? = some r ∧ (r.num = n ∨ r.new = n) := by
 unfold metP
 rw [List.any_eq_true]
 constructor
 ·rintro ⟨r, hr, h⟩
  obtain ⟨j, hj, e⟩ := List.getElem_of_mem hr
  rw [List.length_take] at hj
  rw [List.getElem_take] at e
  refine ⟨j, r, by omega, by rw [← e]; exact List.getElem?_eq_getElem (by omega), by simpa using h⟩
 ·rintro ⟨j, r, hj, hr, h⟩
  refine ⟨r, List.mem_of_getElem? (i := j) ?_, by simpa using h⟩
  rw [List.getElem?_take, if_pos hj]; exact hr
theorem cur_step {l : List WRec} {k : Nat} {r : WRec} (hr : l[k]? = some r) (n : Int) : cur l (k + 1) n = if r.kind = 1 ∧ r.num = n then some k else if r.kind = 3 ∧ r.new = n then cur l k r.num else if (r.kind = 3 ∨ r.kind = 4) ∧ r.num = n then none else cur l k n := by
 simp only [cur, hr]
theorem cur_lt {l : List WRec} : ∀ {k : Nat} {n : Int} {i : Nat}, cur l k n = some i → i < k
 | 0, n, i, h => by cases h
 | k + 1, n, i, h => by
  cases hr : l[k]? with
  | none => simp only [cur, hr] at h; have := cur_lt h; omega
  | some r =>
   rw [cur_step hr] at h
   split at h
   ·cases h; omega
   ·split at h
    ·have := cur_lt h; omega
    ·split at h
     ·cases h
     ·have := cur_lt h; omega
theorem cur_met {l : List WRec} : ∀ {k : Nat} {n : Int} {i : Nat}, cur l k n = some i → metP (l.take k) n = true
 | 0, n, i, h => by cases h
 | k + 1, n, i, h => by
  rw [metP_iff]
  cases hr : l[k]? with
  | none =>
   simp only [cur, hr] at h
   obtain ⟨j, r, h1, h2⟩ := metP_iff.1 (cur_met h)
   exact ⟨j, r, by omega, h2⟩
  | some r =>
   rw [cur_step hr] at h
   split at h
   ·rename_i hc; exact ⟨k, r, by omega, hr, .inl hc.2⟩
   ·split at h
    ·rename_i hc; exact ⟨k, r, by omega, hr, .inr hc.2⟩
    ·split at h
     ·cases h
     ·obtain ⟨j, r, h1, h2⟩ := metP_iff.1 (cur_met h)
      exact ⟨j, r, by omega, h2⟩
theorem used_cur {l : List WRec} : ∀ {k : Nat}, okTo l k = true → ∀ {n : Int}, 1 ≤ n → usedP l n k = (cur l k n).isSome
 | 0, _, n, _ => rfl
 | k + 1, h, n, hn => by
  have hk := ok_less h (Nat.le_succ k)
  have hlen := ok_len h
  obtain ⟨r, hr⟩ : ∃ r, l[k]? = some r := ⟨_, List.getElem?_eq_getElem (by omega)⟩
  have ho := ok_rec h (Nat.lt_succ_self k) hr
  have ih := fun {m : Int} (hm : 1 ≤ m) => used_cur hk hm
  rw [cur_step hr]
  have e : usedP l n (k + 1) = if n == r.new then r.kind == 3 else if n == r.num then r.kind == 1 || r.kind == 2 else usedP l n k := by simp only [usedP, hr]
  rw [e]
  rcases ho.kind with hk1 | hk1 | hk1 | hk1
  ·have hm := ho.made hk1
   by_cases e2 : r.num = n
   ·have : ¬ n = r.new := by omega
    simp [hk1, e2, hm.2.1, this]
    omega
   ·have : ¬ n = 0 := by omega
    have e3 : ¬ n = r.num := fun e => e2 e.symm
    simp [hk1, e2, hm.2.1, this, e3, ih hn]
  ·have hm := ho.mend hk1
   have h0 : ¬ n = 0 := by omega
   by_cases e2 : n = r.num
   ·subst e2
    have := hm.2.2
    rw [ih hn] at this
    simp [hk1, hm.2.1, h0, this]
   ·simp [hk1, hm.2.1, h0, e2, ih hn]
  ·have hm := ho.again hk1
   by_cases e1 : n = r.new
   ·subst e1
    have := hm.2.2.2.2
    rw [ih ho.num.1] at this
    simp [hk1, this]
   ·have e1' : ¬ r.new = n := fun e => e1 e.symm
    by_cases e2 : n = r.num
    ·subst e2
     simp [hk1, e1, e1']
    ·have e2' : ¬ r.num = n := fun e => e2 e.symm
     simp [hk1, e1, e1', e2, e2', ih hn]
  ·have hm := ho.lost hk1
   have h0 : ¬ n = 0 := by omega
   by_cases e2 : n = r.num
   ·subst e2
    simp [hk1, hm.2.1, h0]
   ·have e2' : ¬ r.num = n := fun e => e2 e.symm
    simp [hk1, hm.2.1, h0, e2, e2', ih hn]
theorem cur_uni {l : List WRec} : ∀ {k : Nat}, okTo l k = true → ∀ {n m : Int} {i : Nat}, 1 ≤ n → 1 ≤ m → cur l k n = some i → cur l k m = some i → n = m
 | 0, _, n, m, i, _, _, h, _ => by cases h
 | k + 1, h, n, m, i, hn, hm, h1, h2 => by
  have hk := ok_less h (Nat.le_succ k)
  have hlen := ok_len h
  obtain ⟨r, hr⟩ : ∃ r, l[k]? = some r := ⟨_, List.getElem?_eq_getElem (by omega)⟩
  have ho := ok_rec h (Nat.lt_succ_self k) hr
  rw [cur_step hr] at h1 h2
  have lt : ∀ {x : Int}, cur l k x = some k → False := fun h => by have := cur_lt h; omega
  rcases ho.kind with hk1 | hk1 | hk1 | hk1
  ·simp only [hk1, true_and, show ¬ (1 : Int) = 3 by omega, false_and, if_false, show ¬ (1 : Int) = 4 by omega, or_self] at h1 h2
   split at h1
   ·split at h2
    ·omega
    ·cases h1; exact absurd h2 (fun h => lt h)
   ·split at h2
    ·cases h2; exact absurd h1 (fun h => lt h)
    ·exact cur_uni hk hn hm h1 h2
  ·simp only [hk1, show ¬ (2 : Int) = 1 by omega, false_and, show ¬ (2 : Int) = 3 by omega, if_false, show ¬ (2 : Int) = 4 by omega, or_self] at h1 h2
   exact cur_uni hk hn hm h1 h2
  ·simp only [hk1, show ¬ (3 : Int) = 1 by omega, false_and, if_false, true_and, true_or] at h1 h2
   have hnum := ho.num.1
   split at h1
   ·split at h2
    ·omega
    ·split at h2
     ·cases h2
     ·have := cur_uni hk hnum hm h1 h2; omega
   ·split at h1
    ·cases h1
    ·split at h2
     ·have := cur_uni hk hn hnum h1 h2; omega
     ·split at h2
      ·cases h2
      ·exact cur_uni hk hn hm h1 h2
  ·simp only [hk1, show ¬ (4 : Int) = 1 by omega, false_and, show ¬ (4 : Int) = 3 by omega, if_false, true_and, or_true] at h1 h2
   split at h1
   ·cases h1
   ·split at h2
    ·cases h2
    ·exact cur_uni hk hn hm h1 h2
def gotR (n : Int) (r : WRec) : Bool := (r.kind == 1 && r.num == n) || (r.kind == 3 && r.new == n)
theorem gotR_iff {n : Int} {r : WRec} : gotR n r = true ↔ (r.kind = 1 ∧ r.num = n) ∨ (r.kind = 3 ∧ r.new = n) := by unfold gotR; simp
theorem got_fresh {l : List WRec} {k : Nat} {r : WRec} {n : Int} (ho : RecOk l k r) (h : gotR n r = true) : metP (l.take k) n = false := by
 rcases gotR_iff.1 h with ⟨h1, rfl⟩ | ⟨h1, rfl⟩
 ·exact (ho.made h1).2.2
 ·exact (ho.again h1).2.2.2.1
theorem got_uni {l : List WRec} {K j k : Nat} {r s : WRec} {n : Int} (h : okTo l K = true) (hj : j < K) (hk : k < K) (hr : l[j]? = some r) (hs : l[k]? = some s) (gr : gotR n r = true) (gs : gotR n s = true) : j = k := by
 have key : ∀ {j k : Nat} {r s : WRec}, j < k → k < K → l[j]? = some r → l[k]? = some s → gotR n r = true → gotR n s = true → False := by
  intro j k r s hjk hk hr hs gr gs
  have h1 := got_fresh (ok_rec h hk hs) gs
  have h2 : metP (l.take k) n = true := metP_iff.2 ⟨j, r, hjk, hr, by rcases gotR_iff.1 gr with h | h; exact .inl h.2; exact .inr h.2⟩
  rw [h1] at h2; cases h2
 rcases Nat.lt_trichotomy j k with h | h | h
 ·exact (key h hk hr hs gr gs).elim
 ·exact h
 ·exact (key h hj hs hr gs gr).elim
def goneR (n : Int) (r : WRec) : Bool := r.num == n && (r.kind == 3 || r.kind == 4)
theorem goneR_iff {n : Int} {r : WRec} : goneR n r = true ↔ r.num = n ∧ (r.kind = 3 ∨ r.kind = 4) := by unfold goneR; simp
theorem cur_got {l : List WRec} {j : Nat} {r : WRec} {n : Int} (hr : l[j]? = some r) (hg : gotR n r = true) : cur l (j + 1) n = if r.kind = 1 then some j else cur l j r.num := by
 rw [cur_step hr]
 rcases gotR_iff.1 hg with ⟨h1, h2⟩ | ⟨h1, h2⟩
 ·rw [if_pos ⟨h1, h2⟩, if_pos h1]
 ·rw [if_neg (by omega), if_pos ⟨h1, h2⟩, if_neg (by omega)]
theorem cur_from {l : List WRec} {K j : Nat} {r : WRec} {n : Int} (h : okTo l K = true) (hj : j < K) (hr : l[j]? = some r) (hg : gotR n r = true) : ∀ (k : Nat), j < k → k ≤ K → cur l k n = if (l.take k).any (goneR n) then none else cur l (j + 1) n := by
 intro k
 induction k with
 | zero => intro hk; omega
 | succ k ih =>
  intro hjk hkK
  have hlen := ok_len h
  obtain ⟨s, hs⟩ : ∃ s, l[k]? = some s := ⟨_, List.getElem?_eq_getElem (by omega)⟩
  have htk : l.take (k + 1) = l.take k ++ [s] := by rw [List.take_add_one, hs]; rfl
  rw [htk, List.any_append]
  by_cases e : j = k
  ·subst e
   rw [hr] at hs
   cases hs
   have h0 : (l.take j).any (goneR n) = false := by
    rw [List.any_eq_false]
    intro x hx hgx
    have hm := got_fresh (ok_rec h hj hr) hg
    have : metP (l.take j) n = true := by
     unfold metP; rw [List.any_eq_true]
     exact ⟨x, hx, by simp [(goneR_iff.1 hgx).1]⟩
    rw [hm] at this; cases this
   have h1 : goneR n r = false := by
    cases hh : goneR n r with
    | false => rfl
    | true =>
     rcases gotR_iff.1 hg with ⟨h1, h2⟩ | ⟨h1, h2⟩
     ·have := (goneR_iff.1 hh).2; omega
     ·have := (ok_rec h hj hr).again h1
      exact absurd ((goneR_iff.1 hh).1.trans h2.symm) (fun e => this.2.2.1 e.symm)
   simp [h0, h1]
  ·have ihk := ih (by omega) (by omega)
   have hng : gotR n s = false := by
    cases hh : gotR n s with
    | false => rfl
    | true => exact absurd (got_uni h hj (by omega) hr hs hg hh) e
   have hng' := mt gotR_iff.2 (by rw [hng]; decide)
   rw [cur_step hs, if_neg (fun e => hng' (.inl e)), if_neg (fun e => hng' (.inr e)), ihk]
   cases hgn : goneR n s with
   | true =>
    have := goneR_iff.1 hgn
    rw [if_pos ⟨this.2, this.1⟩]
    simp [hgn]
   | false =>
    have := mt goneR_iff.2 (by rw [hgn]; decide)
    rw [if_neg (fun e => this ⟨e.2, e.1⟩)]
    simp [hgn]
theorem cur_not {l : List WRec} {n : Int} : ∀ {k : Nat}, (∀ (j : Nat) (r : WRec), j < k → l[j]? = some r → gotR n r = false) → cur l k n = none
 | 0, _ => rfl
 | k + 1, h => by
  have ih := cur_not (l := l) (n := n) (k := k) (fun j r hj hr => h j r (by omega) hr)
  cases hr : l[k]? with
  | none => simp only [cur, hr]; exact ih
  | some r =>
   have hng' := mt gotR_iff.2 (by rw [h k r (by omega) hr]; decide)
   rw [cur_step hr, if_neg (fun e => hng' (.inl e)), if_neg (fun e => hng' (.inr e)), ih]
   split <;> rfl
theorem cur_has {l : List WRec} {k : Nat} {n : Int} {i : Nat} (h : cur l k n = some i) : ∃ (j : Nat) (r : WRec), j < k ∧ l[j]? = some r ∧ gotR n r = true := by
 apply Classical.byContradiction
 intro hn
 have := cur_not (l := l) (n := n) (k := k) (fun j r hj hr => by
  cases hg : gotR n r with
  | false => rfl
  | true => exact absurd ⟨j, r, hj, hr, hg⟩ hn)
 rw [this] at h; cases h
theorem cur_first {l : List WRec} {K k j : Nat} {r : WRec} {n : Int} {i : Nat} (h : okTo l K = true) (hk : k ≤ K) (hc : cur l k n = some i) (hj : j < K) (hr : l[j]? = some r) (hg : gotR n r = true) : j < k ∧ cur l (j + 1) n = some i := by
 obtain ⟨j', r', h1, h2, h3⟩ := cur_has hc
 have e := got_uni h hj (by omega) hr h2 hg h3
 subst e
 refine ⟨h1, ?_⟩
 rw [cur_from h hj hr hg k h1 hk] at hc
 split at hc
 ·cases hc
 ·exact hc
theorem cur_made {l : List WRec} : ∀ {k : Nat} {n : Int} {i : Nat}, cur l k n = some i → ∃ r, l[i]? = some r ∧ r.kind = 1
 | 0, n, i, h => by cases h
 | k + 1, n, i, h => by
  cases hr : l[k]? with
  | none => simp only [cur, hr] at h; exact cur_made h
  | some r =>
   rw [cur_step hr] at h
   split at h
   ·rename_i hc; cases h; exact ⟨r, hr, hc.1⟩
   ·split at h
    ·exact cur_made h
    ·split at h
     ·cases h
     ·exact cur_made h
def upTo (l : List WRec) (d : Int) : Nat → Nat
 | 0 => 0
 | k + 1 => match l[k]? with | some r => if r.day ≤ d then k + 1 else upTo l d k | none => upTo l d k
theorem day_mono {l : List WRec} {K : Nat} (h : okTo l K = true) : ∀ {k j : Nat} {r s : WRec}, j ≤ k → k < K → l[j]? = some r → l[k]? = some s → r.day ≤ s.day
 | 0, j, r, s, hj, hk, hr, hs => by
  have : j = 0 := by omega
  subst this; rw [hr] at hs; cases hs; exact Int.le_refl _
 | k + 1, j, r, s, hj, hk, hr, hs => by
  by_cases e : j = k + 1
  ·subst e; rw [hr] at hs; cases hs; exact Int.le_refl _
  ·have hlen := ok_len h
   obtain ⟨t, ht⟩ : ∃ t, l[k]? = some t := ⟨_, List.getElem?_eq_getElem (by omega)⟩
   have h1 := day_mono h (show j ≤ k by omega) (by omega) hr ht
   have h2 := (ok_rec h hk hs).day.1
   simp only [dayB, ht] at h2
   omega
theorem upTo_le {l : List WRec} {d : Int} : ∀ {k : Nat}, upTo l d k ≤ k
 | 0 => Nat.le_refl _
 | k + 1 => by
  unfold upTo
  split
  ·split
   ·exact Nat.le_refl _
   ·exact Nat.le_succ_of_le upTo_le
  ·exact Nat.le_succ_of_le upTo_le
theorem upTo_iff {l : List WRec} {d : Int} {K : Nat} (h : okTo l K = true) : ∀ {k j : Nat} {r : WRec}, k ≤ K → j < k → l[j]? = some r → (r.day ≤ d ↔ j < upTo l d k)
 | 0, j, r, _, hj, _ => by omega
 | k + 1, j, r, hk, hj, hr => by
  have hlen := ok_len h
  obtain ⟨s, hs⟩ : ∃ s, l[k]? = some s := ⟨_, List.getElem?_eq_getElem (by omega)⟩
  have hm := day_mono h (show j ≤ k by omega) (by omega) hr hs
  have e : upTo l d (k + 1) = if s.day ≤ d then k + 1 else upTo l d k := by simp only [upTo, hs]
  rw [e]
  split
  ·exact ⟨fun _ => hj, fun _ => by omega⟩
  ·by_cases e2 : j = k
   ·subst e2
    rw [hr] at hs; cases hs
    have := upTo_le (l := l) (d := d) (k := j)
    exact ⟨fun h => by omega, fun h => by omega⟩
   ·exact upTo_iff h (by omega) (by omega) hr
end Go.Ow

namespace Go.Proofs.YtdkboibnokipaaaDoor
open Go.RowKit Go.Pm Go.Ow
noncomputable def wkIsName : List TV → Option TV
 | [.str s] => some (.bool (nameB s))
 | _ => none
theorem wkIsName_ok : ∀ xs r, wkIsName xs = some r → PCalls Tryd.prog 74 xs r := by
 intro xs r h
 unfold wkIsName at h
 split at h
 ·cases h; exact wIsName_c _
 ·cases h
attribute [go_sem] wkIsName
noncomputable def spWf (l : List WRec) (f : Bool) (k : Nat) (n : Int) : Pm.Spec := ((((spWa.one 68 wkIsNumber).one 74 wkIsName).one 166 (oneP [.sl (recL l) l.length f, .int .i64 n, .int .i64 k] (.bool (metP (l.take k) n)))).one 167 (oneP [.sl (recL l) l.length f, .int .i64 n, .int .i64 k] (.bool (usedP l n k)))).gdt
theorem spWf_ok {l : List WRec} {f : Bool} {k : Nat} (n : Int) (hk : k ≤ l.length) (hl : l.length ≤ 40) : SpecOk Tryd.prog (spWf l f k n) := Spec.gdt_ok (Spec.one_ok (oneP_ok (wUsed_c l f n k hk (by omega))) (Spec.one_ok (oneP_ok (wMet_c l f n k hk (by omega))) (Spec.one_ok wkIsName_ok (Spec.one_ok wkIsNumber_ok spWa_ok))))
theorem emptyB (s : ByteArray) : (s.toList == ByteArray.toList (ByteArray.mk #[])) = decide (s.size = 0) := by
 rw [ByteArray.toList_eq, ByteArray.toList_eq, Bool.eq_iff_iff, beq_iff_eq, decide_eq_true_eq]
 constructor
 ·intro e
  have := congrArg List.length e
  rw [Array.length_toList] at this
  exact this
 ·intro e
  exact List.eq_nil_of_length_eq_zero (by rw [Array.length_toList]; exact e)
section
variable {l : List WRec} (f : Bool) {k : Nat} {r : WRec} (hr : l[k]? = some r) (hl : l.length ≤ 40)
include hr hl
theorem wMade_c : PCalls Tryd.prog 163 [.sl (recL l) l.length f, .int .i64 k] (.bool (nameB r.by_ && (r.new == 0 && !metP (l.take k) r.num))) := by
 have hk := (List.getElem?_eq_some_iff.1 hr).1
 refine pcalls_by Tryd.mixes (spWf_ok (f := f) r.num (Nat.le_of_lt hk) hl) (fn := Tryd.f163) Tryd.func163 rfl (by kernel_rfl) (by show 2 ≤ _; decide) ?_
 have hlt : (k : Int) < l.length := by omega
 have d1 := recL_at hr
 cases c1 : nameB r.by_ with
 | false => simp +decide (maxSteps := 4000000) only [go_sem, Tryd.f163, spWf, hlt, d1, recT, c1]
 | true =>
  cases c2 : (r.new == 0) with
  | false => simp +decide (maxSteps := 4000000) only [go_sem, Tryd.f163, spWf, hlt, d1, recT, c1, c2]
  | true => simp +decide (maxSteps := 4000000) only [go_sem, Tryd.f163, spWf, hlt, d1, recT, c1, c2]
theorem wMended_c : PCalls Tryd.prog 164 [.sl (recL l) l.length f, .int .i64 k] (.bool (nameB r.by_ && (r.new == 0 && usedP l r.num k))) := by
 have hk := (List.getElem?_eq_some_iff.1 hr).1
 refine pcalls_by Tryd.mixes (spWf_ok (f := f) r.num (Nat.le_of_lt hk) hl) (fn := Tryd.f164) Tryd.func164 rfl (by kernel_rfl) (by show 2 ≤ _; decide) ?_
 have hlt : (k : Int) < l.length := by omega
 have d1 := recL_at hr
 cases c1 : nameB r.by_ with
 | false => simp +decide (maxSteps := 4000000) only [go_sem, Tryd.f164, spWf, hlt, d1, recT, c1]
 | true =>
  cases c2 : (r.new == 0) with
  | false => simp +decide (maxSteps := 4000000) only [go_sem, Tryd.f164, spWf, hlt, d1, recT, c1, c2]
  | true => simp +decide (maxSteps := 4000000) only [go_sem, Tryd.f164, spWf, hlt, d1, recT, c1, c2]
theorem wLost_c : PCalls Tryd.prog 165 [.sl (recL l) l.length f, .int .i64 k] (.bool (decide (r.by_.size = 0) && (r.new == 0 && usedP l r.num k))) := by
 have hk := (List.getElem?_eq_some_iff.1 hr).1
 refine pcalls_by Tryd.mixes (spWf_ok (f := f) r.num (Nat.le_of_lt hk) hl) (fn := Tryd.f165) Tryd.func165 rfl (by kernel_rfl) (by show 2 ≤ _; decide) ?_
 have hlt : (k : Int) < l.length := by omega
 have d1 := recL_at hr
 have e := emptyB r.by_
 cases c1 : decide (r.by_.size = 0) with
 | false =>
  rw [c1] at e
  simp +decide (maxSteps := 4000000) only [go_sem, Tryd.f165, spWf, hlt, d1, recT, e]
 | true =>
  rw [c1] at e
  cases c2 : (r.new == 0) with
  | false => simp +decide (maxSteps := 4000000) only [go_sem, Tryd.f165, spWf, hlt, d1, recT, e, c2]
  | true => simp +decide (maxSteps := 4000000) only [go_sem, Tryd.f165, spWf, hlt, d1, recT, e, c2]
end
noncomputable def spWg (l : List WRec) (f : Bool) (k : Nat) (n m : Int) : Pm.Spec := (((spWa.one 68 wkIsNumber).one 166 (oneP [.sl (recL l) l.length f, .int .i64 n, .int .i64 k] (.bool (metP (l.take k) n)))).one 167 (oneP [.sl (recL l) l.length f, .int .i64 m, .int .i64 k] (.bool (usedP l m k)))).gdt
theorem spWg_ok {l : List WRec} {f : Bool} {k : Nat} (n m : Int) (hk : k ≤ l.length) (hl : l.length ≤ 40) : SpecOk Tryd.prog (spWg l f k n m) := Spec.gdt_ok (Spec.one_ok (oneP_ok (wUsed_c l f m k hk (by omega))) (Spec.one_ok (oneP_ok (wMet_c l f n k hk (by omega))) (Spec.one_ok wkIsNumber_ok spWa_ok)))
theorem wAgain_c {l : List WRec} (f : Bool) {k : Nat} {r : WRec} (hr : l[k]? = some r) (hl : l.length ≤ 40) : PCalls Tryd.prog 160 [.sl (recL l) l.length f, .int .i64 k] (.bool (decide (r.by_.size = 0) && (inW r.new 1 99999 && (r.new != r.num && (!metP (l.take k) r.new && usedP l r.num k))))) := by
 have hk := (List.getElem?_eq_some_iff.1 hr).1
 refine pcalls_by Tryd.mixes (spWg_ok (f := f) r.new r.num (Nat.le_of_lt hk) hl) (fn := Tryd.f160) Tryd.func160 rfl (by kernel_rfl) (by show 2 ≤ _; decide) ?_
 have hlt : (k : Int) < l.length := by omega
 have d1 := recL_at hr
 have e := emptyB r.by_
 cases c1 : decide (r.by_.size = 0) with
 | false =>
  rw [c1] at e
  simp +decide -implicitDefEqProofs (maxSteps := 4000000) only [go_sem, Tryd.f160, spWg, hlt, d1, recT, e]
 | true =>
  rw [c1] at e
  cases c2 : inW r.new 1 99999 with
  | false => simp +decide -implicitDefEqProofs (maxSteps := 4000000) only [go_sem, Tryd.f160, spWg, hlt, d1, recT, e, c2]
  | true =>
   cases c3 : (r.new != r.num) with
   | false => simp +decide -implicitDefEqProofs (maxSteps := 4000000) only [go_sem, Tryd.f160, spWg, hlt, d1, recT, e, c2, c3]
   | true =>
    cases c4 : metP (l.take k) r.new with
    | true => simp +decide -implicitDefEqProofs (maxSteps := 4000000) only [go_sem, Tryd.f160, spWg, hlt, d1, recT, e, c2, c3, c4]
    | false => simp +decide -implicitDefEqProofs (maxSteps := 4000000) only [go_sem, Tryd.f160, spWg, hlt, d1, recT, e, c2, c3, c4]
end Go.Proofs.YtdkboibnokipaaaDoor

namespace Go.Ow
open Go Go.RowKit Go.Pm
open Classical in
noncomputable def atP (s0 : TV) (g : Nat → Option TV) : List TV → Option TV
 | [s, .int .i64 i] => if s = s0 ∧ 0 ≤ i then g i.toNat else none
 | _ => none
@[go_sem] theorem atP_eq (s0 : TV) (g : Nat → Option TV) (k : Nat) : atP s0 g [s0, .int .i64 k] = g k := by
 simp [atP]
theorem atP_ok {P : Program} {f : FuncId} {s0 : TV} {g : Nat → Option TV} (h : ∀ k v, g k = some v → PCalls P f [s0, .int .i64 k] v) : ∀ a r, atP s0 g a = some r → PCalls P f a r := by
 intro a r e
 unfold atP at e
 split at e
 ·split at e
  ·rename_i i hc
   obtain ⟨rfl, h0⟩ := hc
   have := h _ _ e
   rwa [Int.toNat_of_nonneg h0] at this
  ·cases e
 ·cases e
end Go.Ow
namespace Go.Proofs.YtdkboibnokipaaaDoor
open Go.RowKit Go.Pm Go.Ow
@[go_sem] theorem globP_kinds : globP 0 = .t (.cptr [.fn 163 [] [], .fn 164 [] [], .fn 160 [] [], .fn 165 [] []]) := rfl
theorem wr0 : IntKind.i64.wrap 0 = 0 := rfl
theorem wr1 : IntKind.i64.wrap 1 = 1 := rfl
theorem wr2 : IntKind.i64.wrap 2 = 2 := rfl
theorem wr3 : IntKind.i64.wrap 3 = 3 := rfl
def bkT (s : TV) (l : List WRec) : Prop := (s = .nilSl ∧ l = []) ∨ ∃ f, s = .sl (recL l) l.length f
noncomputable def spWh (l : List WRec) (f : Bool) : Pm.Spec := (((((spWa.one 68 wkIsNumber).one 163 (atP (.sl (recL l) l.length f) fun k => (l[k]?).map fun r => .bool (nameB r.by_ && (r.new == 0 && !metP (l.take k) r.num)))).one 164 (atP (.sl (recL l) l.length f) fun k => (l[k]?).map fun r => .bool (nameB r.by_ && (r.new == 0 && usedP l r.num k)))).one 160 (atP (.sl (recL l) l.length f) fun k => (l[k]?).map fun r => .bool (decide (r.by_.size = 0) && (inW r.new 1 99999 && (r.new != r.num && (!metP (l.take k) r.new && usedP l r.num k)))))).one 165 (atP (.sl (recL l) l.length f) fun k => (l[k]?).map fun r => .bool (decide (r.by_.size = 0) && (r.new == 0 && usedP l r.num k)))).gdt
theorem spWh_ok {l : List WRec} {f : Bool} (hl : l.length ≤ 40) : SpecOk Tryd.prog (spWh l f) := by
 refine Spec.gdt_ok (Spec.one_ok (atP_ok fun k v e => ?_) (Spec.one_ok (atP_ok fun k v e => ?_) (Spec.one_ok (atP_ok fun k v e => ?_) (Spec.one_ok (atP_ok fun k v e => ?_) (Spec.one_ok wkIsNumber_ok spWa_ok)))))
 all_goals
  cases hr : l[k]? with
  | none => rw [hr] at e; cases e
  | some r => rw [hr] at e; cases e; first | exact wLost_c f hr hl | exact wAgain_c f hr hl | exact wMended_c f hr hl | exact wMade_c f hr hl
theorem wCheckBook_c {s : TV} {l : List WRec} (hs : bkT s l) (hL : l.length ≤ 140737488355328) : PCalls Tryd.prog 28 [s] (.int .i64 (if bookB l then 0 else 92)) := by
 rcases hs with ⟨rfl, rfl⟩ | ⟨f, rfl⟩
 ·refine pcalls_by Tryd.mixes (spWh_ok (l := []) (f := true) (by decide)) (fn := Tryd.f28) Tryd.func28 rfl (by kernel_rfl) (by show 1 ≤ _; decide) ?_
  simp +decide -implicitDefEqProofs (maxSteps := 4000000) only [go_sem, Tryd.f28, spWh]
  refine pwpC_loopU (A := Unit) [0, 2, 3] (fun _ => [(4, .t (.int .i64 0)), (5, .t (.int .i64 0))]) (fun _ => []) (fun _ => 0) () (by decide) (fun _ => by rfl) ?_ fun Q1 hQ1 _ I1 hI1 => ?_
  ·simp +decide -implicitDefEqProofs (maxSteps := 4000000) only [go_sem]
  ·simp +decide -implicitDefEqProofs (maxSteps := 4000000) only [go_sem]
   refine hQ1 _ _ ?_
   have e : bookB [] = true := by decide
   simp +decide -implicitDefEqProofs (maxSteps := 4000000) only [go_sem, e]
 ·by_cases hl : l.length ≤ 40
  ·refine pcalls_by Tryd.mixes (spWh_ok (f := f) hl) (fn := Tryd.f28) Tryd.func28 rfl (by kernel_rfl) (by show 1 ≤ _; decide) ?_
   have h40 : (l.length : Int) ≤ 40 := by omega
   have eb : bookB l = okTo l l.length := by unfold bookB; rw [decide_eq_true hl, Bool.true_and]
   rw [eb]
   simp +decide -implicitDefEqProofs (maxSteps := 4000000) only [go_sem, Tryd.f28, spWh, h40]
   refine pwpC_loopU (A := { k : Nat // k ≤ l.length ∧ (okTo l k = false → okTo l l.length = false) }) [0, 2] (fun k => [(3, .t (.bool (okTo l k.1))), (4, .t (.int .i64 (dayB l k.1))), (5, .t (.int .i64 k.1))]) (fun _ => []) (fun k => l.length - k.1) ⟨0, Nat.zero_le _, fun h => by cases h⟩ (by decide) (fun _ => by rfl) ?_ fun Q1 hQ1 ⟨k, hk, hbad⟩ I1 hI1 => ?_
   ·simp +decide -implicitDefEqProofs (maxSteps := 4000000) only [go_sem, okTo, dayB]
   ·rcases Bool.eq_false_or_eq_true (okTo l k) with ho | ho
    rotate_left
    ·have hb := hbad ho
     simp +decide -implicitDefEqProofs (maxSteps := 4000000) only [go_sem, ho]
     refine hQ1 _ _ ?_
     simp +decide -implicitDefEqProofs (maxSteps := 4000000) only [go_sem, hb]
    ·by_cases hlt : (k : Int) < l.length
     ·obtain ⟨r, hr⟩ : ∃ r, l[k]? = some r := ⟨_, List.getElem?_eq_getElem (by omega)⟩
      have d1 := recL_at hr
      have hle : k * 5 + 5 ≤ (recL l).length := by rw [recL_len]; omega
      have hk1 := Go.Pm.wS (k := k) (by omega)
      have eo : okTo l (k + 1) = recP l k (dayB l k) r := by simp only [okTo, ho, hr, Bool.true_and]
      have ed : dayB l (k + 1) = r.day := by simp only [dayB, hr]
      have hnx : okTo l (k + 1) = false → okTo l l.length = false := fun e => by
       cases h : okTo l l.length with
       | false => rfl
       | true => rw [ok_less h (show k + 1 ≤ l.length by omega)] at e; cases e
      rw [eo] at hnx
      cases c1 : inW r.kind 1 4 with
      | false =>
       have er : recP l k (dayB l k) r = false := by unfold recP; rw [c1]; rfl
       simp +decide -implicitDefEqProofs (maxSteps := 4000000) only [go_sem, ho, hlt, d1, hle, recT, c1, hr]
       refine hI1 _ ⟨k + 1, by omega, by rw [eo]; exact hnx⟩ (by simp only; omega) ?_
       simp +decide -implicitDefEqProofs (maxSteps := 4000000) only [go_sem, eo, ed, er, hk1]
      | true =>
       cases c2 : inW r.day (dayB l k) 100000 with
       | false =>
        have er : recP l k (dayB l k) r = false := by unfold recP; rw [c1, c2]; rfl
        simp +decide -implicitDefEqProofs (maxSteps := 4000000) only [go_sem, ho, hlt, d1, hle, recT, c1, c2, hr]
        refine hI1 _ ⟨k + 1, by omega, by rw [eo]; exact hnx⟩ (by simp only; omega) ?_
        simp +decide -implicitDefEqProofs (maxSteps := 4000000) only [go_sem, eo, ed, er, hk1]
       | true =>
        cases c3 : inW r.num 1 99999 with
        | false =>
         have er : recP l k (dayB l k) r = false := by unfold recP; rw [c1, c2, c3]; rfl
         simp +decide -implicitDefEqProofs (maxSteps := 4000000) only [go_sem, ho, hlt, d1, hle, recT, c1, c2, c3, hr]
         refine hI1 _ ⟨k + 1, by omega, by rw [eo]; exact hnx⟩ (by simp only; omega) ?_
         simp +decide -implicitDefEqProofs (maxSteps := 4000000) only [go_sem, eo, ed, er, hk1]
        | true =>
         have er : recP l k (dayB l k) r = kindP l k r := by unfold recP; rw [c1, c2, c3]; rfl
         have hkd := inW_iff.1 c1
         have h4 : r.kind = 1 ∨ r.kind = 2 ∨ r.kind = 3 ∨ r.kind = 4 := by omega
         rcases h4 with h4 | h4 | h4 | h4
         ·have e2 : kindP l k r = (nameB r.by_ && (r.new == 0 && !metP (l.take k) r.num)) := by unfold kindP; rw [h4]; rfl
          rw [h4] at c1
          simp +decide -implicitDefEqProofs (maxSteps := 4000000) only [go_sem, ho, hlt, d1, hle, recT, h4, c1, c2, c3, hr, wr0, wr1, wr2, wr3]
          refine hI1 _ ⟨k + 1, by omega, by rw [eo]; exact hnx⟩ (by simp only; omega) ?_
          simp +decide -implicitDefEqProofs (maxSteps := 4000000) only [go_sem, eo, ed, er, e2, hk1]
         ·have e2 : kindP l k r = (nameB r.by_ && (r.new == 0 && usedP l r.num k)) := by unfold kindP; rw [h4]; rfl
          rw [h4] at c1
          simp +decide -implicitDefEqProofs (maxSteps := 4000000) only [go_sem, ho, hlt, d1, hle, recT, h4, c1, c2, c3, hr, wr0, wr1, wr2, wr3]
          refine hI1 _ ⟨k + 1, by omega, by rw [eo]; exact hnx⟩ (by simp only; omega) ?_
          simp +decide -implicitDefEqProofs (maxSteps := 4000000) only [go_sem, eo, ed, er, e2, hk1]
         ·have e2 : kindP l k r = (decide (r.by_.size = 0) && (inW r.new 1 99999 && (r.new != r.num && (!metP (l.take k) r.new && usedP l r.num k)))) := by unfold kindP; rw [h4]; rfl
          rw [h4] at c1
          simp +decide -implicitDefEqProofs (maxSteps := 4000000) only [go_sem, ho, hlt, d1, hle, recT, h4, c1, c2, c3, hr, wr0, wr1, wr2, wr3]
          refine hI1 _ ⟨k + 1, by omega, by rw [eo]; exact hnx⟩ (by simp only; omega) ?_
          simp +decide -implicitDefEqProofs (maxSteps := 4000000) only [go_sem, eo, ed, er, e2, hk1]
         ·have e2 : kindP l k r = (decide (r.by_.size = 0) && (r.new == 0 && usedP l r.num k)) := by unfold kindP; rw [h4]; rfl
          rw [h4] at c1
          simp +decide -implicitDefEqProofs (maxSteps := 4000000) only [go_sem, ho, hlt, d1, hle, recT, h4, c1, c2, c3, hr, wr0, wr1, wr2, wr3]
          refine hI1 _ ⟨k + 1, by omega, by rw [eo]; exact hnx⟩ (by simp only; omega) ?_
          simp +decide -implicitDefEqProofs (maxSteps := 4000000) only [go_sem, eo, ed, er, e2, hk1]
     ·have e : k = l.length := by omega
      subst e
      simp +decide -implicitDefEqProofs (maxSteps := 4000000) only [go_sem, ho, hlt]
      refine hQ1 _ _ ?_
      simp +decide -implicitDefEqProofs (maxSteps := 4000000) only [go_sem, ho]
  ·refine pcalls_by Tryd.mixes (spWh_ok (l := []) (f := true) (by decide)) (fn := Tryd.f28) Tryd.func28 rfl (by kernel_rfl) (by show 1 ≤ _; decide) ?_
   have h40 : ¬ (l.length : Int) ≤ 40 := by omega
   have eb : bookB l = false := by unfold bookB; rw [decide_eq_false hl, Bool.false_and]
   rw [eb]
   simp +decide -implicitDefEqProofs (maxSteps := 4000000) only [go_sem, Tryd.f28, spWh, h40]
   refine pwpC_loopU (A := Unit) [0, 2, 3] (fun _ => [(4, .t (.int .i64 0)), (5, .t (.int .i64 0))]) (fun _ => []) (fun _ => 0) () (by decide) (fun _ => by rfl) ?_ fun Q1 hQ1 _ I1 hI1 => ?_
   ·simp +decide -implicitDefEqProofs (maxSteps := 4000000) only [go_sem]
   ·simp +decide -implicitDefEqProofs (maxSteps := 4000000) only [go_sem]
    refine hQ1 _ _ ?_
    simp +decide -implicitDefEqProofs (maxSteps := 4000000) only [go_sem]
end Go.Proofs.YtdkboibnokipaaaDoor

namespace Go.Ow
open Go Go.Pm
def bearN (l : List WRec) (n d : Int) : Option Nat := cur l (upTo l d l.length) n
def marksK (l : List WRec) (i : Nat) (d : Int) : Nat → List ByteArray
 | 0 => []
 | k + 1 => marksK l i d k ++ (match l[k]? with
  | some r => if r.kind = 2 ∧ r.day ≤ d ∧ cur l k r.num = some i then [r.by_] else []
  | none => [])
theorem marksK_succ {l : List WRec} {i k : Nat} {d : Int} {r : WRec} (hr : l[k]? = some r) : marksK l i d (k + 1) = marksK l i d k ++ if r.kind = 2 ∧ r.day ≤ d ∧ cur l k r.num = some i then [r.by_] else [] := by simp only [marksK, hr]
theorem marksK_len {l : List WRec} {i : Nat} {d : Int} : ∀ {k : Nat}, (marksK l i d k).length ≤ k
 | 0 => Nat.le_refl _
 | k + 1 => by
  have := marksK_len (l := l) (i := i) (d := d) (k := k)
  unfold marksK
  rw [List.length_append]
  split
  ·split
   ·simp only [List.length_cons, List.length_nil]; omega
   ·simp only [List.length_nil]; omega
  ·simp only [List.length_nil]; omega
theorem marksK_zero {l : List WRec} {i : Nat} {d : Int} : ∀ {k : Nat}, k ≤ i + 1 → marksK l i d k = []
 | 0, _ => rfl
 | k + 1, h => by
  unfold marksK
  rw [marksK_zero (by omega)]
  split
  ·split
   ·rename_i hc; have := cur_lt hc.2.2; omega
   ·rfl
  ·rfl
def gotN (l : List WRec) (n : Int) : Option Nat := l.findIdx? (gotR n)
theorem gotN_some {l : List WRec} {n : Int} {j : Nat} (h : gotN l n = some j) : ∃ r, l[j]? = some r ∧ gotR n r = true := by
 unfold gotN at h
 rw [List.findIdx?_eq_some_iff_getElem] at h
 obtain ⟨hj, hg, _⟩ := h
 exact ⟨_, List.getElem?_eq_getElem hj, hg⟩
theorem gotN_of {l : List WRec} {n : Int} {j : Nat} {r : WRec} (h : okTo l l.length = true) (hr : l[j]? = some r) (hg : gotR n r = true) : gotN l n = some j := by
 cases hn : gotN l n with
 | none =>
  unfold gotN at hn
  rw [List.findIdx?_eq_none_iff] at hn
  rw [hn r (List.mem_of_getElem? hr)] at hg; cases hg
 | some j' =>
  obtain ⟨r', h1, h2⟩ := gotN_some hn
  rw [got_uni h (List.getElem?_eq_some_iff.1 h1).1 (List.getElem?_eq_some_iff.1 hr).1 h1 hr h2 hg]
theorem gotN_none {l : List WRec} {n : Int} (h : gotN l n = none) {k : Nat} : cur l k n = none := by
 unfold gotN at h
 rw [List.findIdx?_eq_none_iff] at h
 exact cur_not fun j r _ hr => h r (List.mem_of_getElem? hr)
theorem got_born {l : List WRec} {j : Nat} {r : WRec} {n : Int} (h : okTo l l.length = true) (hr : l[j]? = some r) (hg : gotR n r = true) : ∃ i, cur l (j + 1) n = some i := by
 rw [cur_got hr hg]
 split
 ·exact ⟨j, rfl⟩
 ·rename_i hk
  have hj := (List.getElem?_eq_some_iff.1 hr).1
  have ho := ok_rec h hj hr
  have hu := (ho.again (by rcases gotR_iff.1 hg with h | h; exact absurd h.1 hk; exact h.1)).2.2.2.2
  rw [used_cur (ok_less h (by omega)) ho.num.1] at hu
  exact Option.isSome_iff_exists.1 hu
theorem got_back {l : List WRec} {j : Nat} {r : WRec} {n : Int} {i : Nat} (h : okTo l l.length = true) (hr : l[j]? = some r) (hg : gotR n r = true) (hk : r.kind = 3) (hc : cur l (j + 1) n = some i) :
  ∃ (j' : Nat) (r' : WRec), gotN l r.num = some j' ∧ j' < j ∧ l[j']? = some r' ∧ gotR r.num r' = true ∧ cur l (j' + 1) r.num = some i := by
 have hj := (List.getElem?_eq_some_iff.1 hr).1
 rw [cur_got hr hg, if_neg (by omega)] at hc
 obtain ⟨j', r', h1, h2, h3⟩ := cur_has hc
 have := cur_first h (Nat.le_of_lt hj) hc (by omega) h2 h3
 exact ⟨j', r', gotN_of h h2 h3, h1, h2, h3, this.2⟩
theorem got_end {l : List WRec} {j : Nat} {r : WRec} {n : Int} {i : Nat} (hr : l[j]? = some r) (hg : gotR n r = true) (hk : ¬ r.kind = 3) (hc : cur l (j + 1) n = some i) : i = j := by
 rw [cur_got hr hg, if_pos (by rcases gotR_iff.1 hg with h | h; exact h.1; exact absurd h.1 hk)] at hc
 cases hc; rfl
theorem bearN_none {l : List WRec} {n d : Int} (h : gotN l n = none) : bearN l n d = none := gotN_none h
theorem bearN_late {l : List WRec} {n d : Int} {j : Nat} {r : WRec} (h : okTo l l.length = true) (hj : gotN l n = some j) (hr : l[j]? = some r) (hd : d < r.day) : bearN l n d = none := by
 obtain ⟨r', h1, h2⟩ := gotN_some hj
 rw [hr] at h1; cases h1
 cases hc : bearN l n d with
 | none => rfl
 | some i =>
  have hjl := (List.getElem?_eq_some_iff.1 hr).1
  have := (cur_first h upTo_le hc hjl hr h2).1
  have := (upTo_iff (d := d) h (Nat.le_refl _) hjl hr).2 this
  omega
def goneD (n d : Int) (r : WRec) : Bool := r.num == n && (decide (r.day ≤ d) && (r.kind == 3 || r.kind == 4))
theorem gone_any {l : List WRec} {n d : Int} (h : okTo l l.length = true) : l.any (goneD n d) = (l.take (upTo l d l.length)).any (goneR n) := by
 rw [Bool.eq_iff_iff, List.any_eq_true, List.any_eq_true]
 constructor
 ·rintro ⟨r, hr, hg⟩
  obtain ⟨j, hj, rfl⟩ := List.getElem_of_mem hr
  unfold goneD at hg
  simp only [Bool.and_eq_true, decide_eq_true_eq] at hg
  have := (upTo_iff (d := d) h (Nat.le_refl _) hj (List.getElem?_eq_getElem hj)).1 hg.2.1
  refine ⟨l[j], List.mem_of_getElem? (i := j) ?_, by unfold goneR; rw [hg.1, hg.2.2]; rfl⟩
  rw [List.getElem?_take, if_pos this]; exact List.getElem?_eq_getElem hj
 ·rintro ⟨r, hr, hg⟩
  obtain ⟨j, hj, e⟩ := List.getElem_of_mem hr
  rw [List.length_take] at hj
  rw [List.getElem_take] at e
  have := (upTo_iff (d := d) h (Nat.le_refl _) (show j < l.length by omega) (List.getElem?_eq_getElem (by omega))).2 (by omega)
  refine ⟨r, by rw [← e]; exact List.getElem_mem _, ?_⟩
  unfold goneD goneR at *
  simp only [Bool.and_eq_true, decide_eq_true_eq] at hg ⊢
  exact ⟨hg.1, by rw [← e]; exact this, hg.2⟩
theorem bearN_gone {l : List WRec} {n d : Int} {j : Nat} {r : WRec} (h : okTo l l.length = true) (hj : gotN l n = some j) (hr : l[j]? = some r) (hd : r.day ≤ d) : bearN l n d = if l.any (goneD n d) then none else cur l (j + 1) n := by
 obtain ⟨r', h1, h2⟩ := gotN_some hj
 rw [hr] at h1; cases h1
 have hjl := (List.getElem?_eq_some_iff.1 hr).1
 have hlt := (upTo_iff (d := d) h (Nat.le_refl _) hjl hr).1 hd
 rw [gone_any h]
 exact cur_from h hjl hr h2 _ hlt upTo_le
theorem other_step {l : List WRec} {K k i : Nat} {r : WRec} {now : Int} (h : okTo l K = true) (hk : k < K) (hr : l[k]? = some r) (hc : cur l k now = some i) (hn : 1 ≤ now) (hne : r.num ≠ now) {n : Int} (h1 : 1 ≤ n) : cur l (k + 1) n = some i ↔ cur l k n = some i := by
 have hk0 := ok_less h (Nat.le_of_lt hk)
 have ho := ok_rec h hk hr
 have hi := cur_lt hc
 have fresh : ∀ {m : Int}, metP (l.take k) m = false → cur l k m = some i → False := fun hm hc => by
  have := cur_met hc; rw [hm] at this; cases this
 have own : cur l k r.num = some i → False := fun hx => hne (cur_uni hk0 ho.num.1 hn hx hc)
 rw [cur_step hr]
 split
 ·rename_i hx
  exact ⟨fun e => by cases e; omega, fun e => by have := (ho.made hx.1).2.2; rw [hx.2] at this; exact (fresh this e).elim⟩
 ·split
  ·rename_i hx
   exact ⟨fun e => (own e).elim, fun e => by have := (ho.again hx.1).2.2.2.1; rw [hx.2] at this; exact (fresh this e).elim⟩
  ·split
   ·rename_i hx
    exact ⟨fun e => (by cases e), fun e => by rw [← hx.2] at e; exact (own e).elim⟩
   ·exact Iff.rfl
theorem none_after {l : List WRec} {K i : Nat} (h : okTo l K = true) : ∀ {m k : Nat}, i < k → k ≤ m → m ≤ K → (∀ n, 1 ≤ n → cur l k n ≠ some i) → ∀ n, 1 ≤ n → cur l m n ≠ some i
 | 0, k, hi, hk, _, _, _, _ => by omega
 | m + 1, k, hi, hk, hm, hno, n, hn => by
  by_cases e : k = m + 1
  ·subst e; exact hno n hn
  ·have ih := none_after h (m := m) hi (by omega) (by omega) hno
   have hlen := ok_len h
   obtain ⟨r, hr⟩ : ∃ r, l[m]? = some r := ⟨_, List.getElem?_eq_getElem (by omega)⟩
   have ho := ok_rec h (show m < K by omega) hr
   rw [cur_step hr]
   split
   ·intro e; cases e; omega
   ·split
    ·exact ih _ ho.num.1
    ·split
     ·intro e; cases e
     ·exact ih n hn
theorem marks_after {l : List WRec} {K i : Nat} {d : Int} (h : okTo l K = true) : ∀ {m k : Nat}, i < k → k ≤ m → m ≤ K → (∀ n, 1 ≤ n → cur l k n ≠ some i) → marksK l i d m = marksK l i d k
 | 0, k, hi, hk, _, _ => by omega
 | m + 1, k, hi, hk, hm, hno => by
  by_cases e : k = m + 1
  ·subst e; rfl
  ·have hlen := ok_len h
   obtain ⟨r, hr⟩ : ∃ r, l[m]? = some r := ⟨_, List.getElem?_eq_getElem (by omega)⟩
   have ho := ok_rec h (show m < K by omega) hr
   rw [marksK_succ hr, marks_after h (m := m) hi (by omega) (by omega) hno, if_neg (fun e => none_after h (m := m) hi (by omega) (by omega) hno _ ho.num.1 e.2.2), List.append_nil]
def Brn (l : List WRec) (i : Nat) (d : Int) (k : Nat) (b : Int) : Prop := ∀ n, 1 ≤ n → (cur l (min k (upTo l d l.length)) n = some i ↔ b = n)
structure Fol (l : List WRec) (i : Nat) (d : Int) (k : Nat) (now b : Int) (m : List ByteArray) : Prop where
 le : k ≤ l.length
 pos : 1 ≤ now
 is : cur l k now = some i
 brn : Brn l i d k b
 marks : m = marksK l i d k
theorem fol_first {l : List WRec} {i : Nat} {d : Int} {r : WRec} (h : okTo l l.length = true) (hr : l[i]? = some r) (hk : r.kind = 1) : Fol l i d (i + 1) r.num (if r.day ≤ d then r.num else 0) [] := by
 have hi := (List.getElem?_eq_some_iff.1 hr).1
 have ho := ok_rec h hi hr
 have hc : cur l (i + 1) r.num = some i := by rw [cur_step hr, if_pos ⟨hk, rfl⟩]
 refine ⟨hi, ho.num.1, hc, fun n hn => ?_, (marksK_zero (Nat.le_refl _)).symm⟩
 have hu := upTo_iff (d := d) h (Nat.le_refl _) hi hr
 by_cases hd : r.day ≤ d
 ·have := hu.1 hd
  rw [if_pos hd, Nat.min_eq_left (by omega)]
  exact ⟨fun e => cur_uni (ok_less h hi) ho.num.1 hn hc e, fun e => by rw [← e]; exact hc⟩
 ·have := mt hu.2 hd
  rw [if_neg hd, Nat.min_eq_right (by omega)]
  exact ⟨fun e => by have := cur_lt e; omega, fun e => by omega⟩
section
variable {l : List WRec} {i k : Nat} {d : Int} {now b : Int} {m : List ByteArray} {r : WRec}
theorem brn_same (h : okTo l l.length = true) (hr : l[k]? = some r) (hb : Brn l i d k b) (hs : ∀ n, 1 ≤ n → (cur l (k + 1) n = some i ↔ cur l k n = some i)) : Brn l i d (k + 1) b := by
 intro n hn
 have hk := (List.getElem?_eq_some_iff.1 hr).1
 have := hb n hn
 by_cases hu : k < upTo l d l.length
 ·rw [Nat.min_eq_left (by omega)] at this ⊢
  rw [hs n hn]; exact this
 ·rw [Nat.min_eq_right (by omega)] at this ⊢
  exact this
theorem brn_late (h : okTo l l.length = true) (hr : l[k]? = some r) (hb : Brn l i d k b) (hd : ¬ r.day ≤ d) : Brn l i d (k + 1) b := by
 intro n hn
 have hk := (List.getElem?_eq_some_iff.1 hr).1
 have := hb n hn
 have hu := mt (upTo_iff (d := d) h (Nat.le_refl _) hk hr).2 hd
 rw [Nat.min_eq_right (by omega)] at this ⊢
 exact this
theorem fol_other (h : okTo l l.length = true) (hf : Fol l i d k now b m) (hr : l[k]? = some r) (hne : r.num ≠ now) : Fol l i d (k + 1) now b m := by
 have hk := (List.getElem?_eq_some_iff.1 hr).1
 have hs := fun {n : Int} (hn : 1 ≤ n) => other_step h hk hr hf.is hf.pos hne hn
 refine ⟨hk, hf.pos, (hs hf.pos).2 hf.is, brn_same h hr hf.brn fun n hn => hs hn, ?_⟩
 rw [marksK_succ hr, if_neg (fun e => hne (cur_uni (ok_less h (by omega)) (ok_rec h hk hr).num.1 hf.pos e.2.2 hf.is)), List.append_nil]
 exact hf.marks
theorem fol_not1 (h : okTo l l.length = true) (hf : Fol l i d k now b m) (hr : l[k]? = some r) (he : r.num = now) : r.kind ≠ 1 := fun e => by
 have hk := (List.getElem?_eq_some_iff.1 hr).1
 have := ((ok_rec h hk hr).made e).2.2
 rw [he, cur_met hf.is] at this; cases this
theorem fol_mend (h : okTo l l.length = true) (hf : Fol l i d k now b m) (hr : l[k]? = some r) (he : r.num = now) (h2 : r.kind = 2) : Fol l i d (k + 1) now b (if r.day ≤ d then m ++ [r.by_] else m) := by
 have hk := (List.getElem?_eq_some_iff.1 hr).1
 have hs : ∀ n, cur l (k + 1) n = cur l k n := fun n => by rw [cur_step hr, if_neg (by omega), if_neg (by omega), if_neg (by omega)]
 refine ⟨hk, hf.pos, by rw [hs]; exact hf.is, brn_same h hr hf.brn fun n _ => by rw [hs], ?_⟩
 rw [marksK_succ hr, hf.marks]
 by_cases hd : r.day ≤ d
 ·rw [if_pos hd, if_pos ⟨h2, hd, by rw [he]; exact hf.is⟩]
 ·rw [if_neg hd, if_neg (fun e => hd e.2.1), List.append_nil]
theorem fol_again (h : okTo l l.length = true) (hf : Fol l i d k now b m) (hr : l[k]? = some r) (he : r.num = now) (h3 : r.kind = 3) : Fol l i d (k + 1) r.new (if r.day ≤ d then r.new else b) m := by
 have hk := (List.getElem?_eq_some_iff.1 hr).1
 have ho := (ok_rec h hk hr).again h3
 have hc : cur l (k + 1) r.new = some i := by rw [cur_step hr, if_neg (by omega), if_pos ⟨h3, rfl⟩, he]; exact hf.is
 refine ⟨hk, ho.2.1.1, hc, ?_, ?_⟩
 ·by_cases hd : r.day ≤ d
  ·rw [if_pos hd]
   intro n hn
   have hu := (upTo_iff (d := d) h (Nat.le_refl _) hk hr).1 hd
   rw [Nat.min_eq_left (by omega)]
   exact ⟨fun e => cur_uni (ok_less h hk) ho.2.1.1 hn hc e, fun e => by rw [← e]; exact hc⟩
  ·rw [if_neg hd]; exact brn_late h hr hf.brn hd
 ·rw [marksK_succ hr, if_neg (fun e => by omega), List.append_nil]; exact hf.marks
theorem fol_lost (h : okTo l l.length = true) (hf : Fol l i d k now b m) (hr : l[k]? = some r) (he : r.num = now) (h4 : r.kind = 4) : Brn l i d l.length (if r.day ≤ d then 0 else b) ∧ m = marksK l i d l.length := by
 have hk := (List.getElem?_eq_some_iff.1 hr).1
 have hi := cur_lt hf.is
 have hno : ∀ n, 1 ≤ n → cur l (k + 1) n ≠ some i := fun n hn => by
  rw [cur_step hr, if_neg (by omega), if_neg (by omega)]
  split
  ·intro e; cases e
  ·rename_i hx
   intro e
   have := cur_uni (ok_less h (by omega)) hf.pos hn hf.is e
   exact hx ⟨.inr h4, he.trans this⟩
 refine ⟨fun n hn => ?_, ?_⟩
 ·have hu := upTo_iff (d := d) h (Nat.le_refl _) hk hr
  have hup := upTo_le (l := l) (d := d) (k := l.length)
  rw [Nat.min_eq_right hup]
  by_cases hd : r.day ≤ d
  ·rw [if_pos hd]
   have := hu.1 hd
   exact ⟨fun e => absurd e (none_after h (by omega) (by omega) hup hno n hn), fun e => by omega⟩
  ·rw [if_neg hd]
   have := mt hu.2 hd
   have hb := hf.brn n hn
   rw [Nat.min_eq_right (by omega)] at hb
   exact hb
 ·rw [marks_after h (show i < k + 1 by omega) hk (Nat.le_refl _) hno, marksK_succ hr, if_neg (fun e => by omega), List.append_nil]; exact hf.marks
theorem fol_end (hf : Fol l i d l.length now b m) : Brn l i d l.length b ∧ m = marksK l i d l.length := ⟨hf.brn, hf.marks⟩
theorem brn_bear (hb : Brn l i d l.length b) {n : Int} (hn : 1 ≤ n) : bearN l n d = some i ↔ b = n := by
 have := hb n hn
 rw [Nat.min_eq_right upTo_le] at this
 exact this
end
end Go.Ow

namespace Go.Ow
open Go Go.RowKit Go.Pm
def fIxR (p : WRec → Bool) (l : List WRec) : Int := match l.findIdx? p with | some i => (i : Int) | none => -1
theorem fIxR_hit {p : WRec → Bool} {l : List WRec} {k : Nat} {x : WRec} (hno : ∀ (i : Nat) (y : WRec), i < k → l[i]? = some y → p y = false) (hx : l[k]? = some x) (hp : p x = true) : fIxR p l = k := by
 unfold fIxR
 have hk := (List.getElem?_eq_some_iff.1 hx).1
 have he := (List.getElem?_eq_some_iff.1 hx).2
 have : l.findIdx? p = some k := by
  rw [List.findIdx?_eq_some_iff_getElem]
  refine ⟨hk, by rw [he]; exact hp, fun j hj => ?_⟩
  have := hno j _ hj (List.getElem?_eq_getElem (by omega))
  rw [this]; decide
 rw [this]
theorem fIxR_none {p : WRec → Bool} {l : List WRec} (hno : ∀ (i : Nat) (y : WRec), i < l.length → l[i]? = some y → p y = false) : fIxR p l = -1 := by
 unfold fIxR
 have : l.findIdx? p = none := by
  rw [List.findIdx?_eq_none_iff]
  intro x hx
  obtain ⟨i, hi⟩ := List.mem_iff_getElem?.1 hx
  exact hno i x (List.getElem?_eq_some_iff.1 hi).1 hi
 rw [this]
noncomputable def wrP (caps : List TV) (p : WRec → Bool) : List TV → Option TV
 | .agg [.int .i64 a, .int .i64 b, .int .i64 c, .str s, .int .i64 d] :: cs => @ite _ (cs = caps) (Classical.propDecidable _) (some (.bool (p ⟨a, b, c, s, d⟩))) none
 | _ => none
theorem wrP_ok {P : Program} {f : FuncId} {caps : List TV} {p : WRec → Bool} (h : ∀ x, PCalls P f (.agg (recT x) :: caps) (.bool (p x))) : ∀ al r, wrP caps p al = some r → PCalls P f al r := by
 intro al r e
 unfold wrP at e
 split at e
 ·split at e
  ·rename_i hc; subst hc; cases e; exact h ⟨_, _, _, _, _⟩
  ·cases e
 ·cases e
@[go_sem] theorem wrP_eq (caps cs : List TV) (p : WRec → Bool) (a b c d : Int) (s : ByteArray) : wrP caps p (.agg [.int .i64 a, .int .i64 b, .int .i64 c, .str s, .int .i64 d] :: cs) = @ite _ (cs = caps) (Classical.propDecidable _) (some (.bool (p ⟨a, b, c, s, d⟩))) none := rfl
@[go_sem] theorem allT : ∀ cs : List TV, allO (List.map PV.toT (List.map PV.t cs)) = some cs
 | [] => rfl
 | c :: cs => by simp only [List.map_cons, allO, allT cs, PV.toT, Option.map_some]
theorem gotN_ix (l : List WRec) (n : Int) : fIxR (gotR n) l = match gotN l n with | some i => (i : Int) | none => -1 := rfl
end Go.Ow
namespace Go.Proofs.YtdkboibnokipaaaDoor
open Go.RowKit Go.Pm Go.Ow
theorem wFirst_c {fid : FuncId} {caps : List TV} {p : WRec → Bool} {l : List WRec} {s : TV} (hl : bkT s l) (hll : l.length ≤ 1000000) (hc : ∀ x, PCalls Tryd.prog fid (.agg (recT x) :: caps) (.bool (p x))) : PCalls Tryd.prog 95 [.fn fid [] caps, s] (.int .i64 (fIxR p l)) := by
 refine pcalls_by Tryd.mixes (Spec.one_ok (wrP_ok hc) noSpec_ok) (fn := Tryd.f95) Tryd.func95 rfl (by kernel_rfl) (by show 2 ≤ _; decide) ?_
 rcases hl with ⟨rfl, rfl⟩ | ⟨f, rfl⟩
 ·simp +decide -implicitDefEqProofs (maxSteps := 4000000) only [go_sem, Tryd.f95]
  refine pwpC_loopU (A := Unit) [0, 7, 8] (fun _ => [(9, .t (.int .i64 0))]) (fun _ => []) (fun _ => 0) () (by decide) (fun _ => by rfl) ?_ fun Q1 hQ1 _ I1 hI1 => ?_
  ·simp +decide -implicitDefEqProofs (maxSteps := 4000000) only [go_sem]
  ·simp +decide -implicitDefEqProofs (maxSteps := 4000000) only [go_sem]
   refine hQ1 _ _ ?_
   simp +decide -implicitDefEqProofs (maxSteps := 4000000) only [go_sem]
   first | done | rfl
 ·simp +decide -implicitDefEqProofs (maxSteps := 4000000) only [go_sem, Tryd.f95]
  have hlen := recL_len l
  refine pwpC_loopU (A := { k : Nat // k ≤ l.length ∧ ∀ (i : Nat) (y : WRec), i < k → l[i]? = some y → p y = false }) [0, 7, 8] (fun k => [(9, .t (.int .i64 k.1))]) (fun _ => []) (fun k => l.length - k.1) ⟨0, by omega, fun i y h => by omega⟩ (by decide) (fun _ => by rfl) ?_ fun Q1 hQ1 ⟨k, hk, hno⟩ I1 hI1 => ?_
  ·simp +decide -implicitDefEqProofs (maxSteps := 4000000) only [go_sem]
  ·by_cases hlt : (k : Int) < l.length
   ·obtain ⟨x, hx⟩ : ∃ r, l[k]? = some r := ⟨_, List.getElem?_eq_getElem (by omega)⟩
    have hd := recL_at hx
    have hc1 : IntKind.i64.wrap (k + 1) = ((k + 1 : Nat) : Int) := by rw [wrap_in (by omega) (by omega)]; omega
    have hle : k * 5 + 5 ≤ (recL l).length := by rw [hlen]; omega
    cases hb : p x with
    | true =>
     have e := fIxR_hit hno hx hb
     obtain ⟨a, b, c, d, g⟩ := x
     simp +decide -implicitDefEqProofs (maxSteps := 4000000) only [go_sem, hlt, hd, hb, hle, recT]
     refine hQ1 _ _ ?_
     simp +decide -implicitDefEqProofs (maxSteps := 4000000) only [go_sem, e]
    | false =>
     have hno' : ∀ (i : Nat) (y : WRec), i < k + 1 → l[i]? = some y → p y = false := fun i y hi hy => by
      by_cases e : i = k
      ·subst e; rw [hx] at hy; cases hy; exact hb
      ·exact hno i y (by omega) hy
     obtain ⟨a, b, c, d, g⟩ := x
     simp +decide -implicitDefEqProofs (maxSteps := 4000000) only [go_sem, hlt, hd, hb, hle, recT]
     refine hI1 _ ⟨k + 1, by omega, hno'⟩ (by simp only; omega) ?_
     simp +decide -implicitDefEqProofs (maxSteps := 4000000) only [go_sem, hc1]
   ·have hke : k = l.length := by omega
    subst hke
    have e : fIxR p l = -1 := fIxR_none hno
    simp +decide -implicitDefEqProofs (maxSteps := 4000000) only [go_sem, hlt]
    refine hQ1 _ _ ?_
    simp +decide -implicitDefEqProofs (maxSteps := 4000000) only [go_sem, e]
theorem wGot1_c (n : Int) (r : WRec) : PCalls Tryd.prog 124 [.agg (recT r), .cptr [.int .i64 n]] (.bool (gotR n r)) := by
 refine pcalls_by Tryd.mixes (Spec.gdt_ok noSpec_ok) (fn := Tryd.f124) Tryd.func124 rfl (by kernel_rfl) (by show 2 ≤ _; decide) ?_
 unfold gotR
 cases c1 : (r.kind == 1) with
 | true =>
  cases c2 : (r.num == n) with
  | true => simp +decide -implicitDefEqProofs (maxSteps := 4000000) only [go_sem, Tryd.f124, recT, c1, c2]
  | false =>
   cases c3 : (r.kind == 3) with
   | true => simp +decide -implicitDefEqProofs (maxSteps := 4000000) only [go_sem, Tryd.f124, recT, c1, c2, c3]
   | false => simp +decide -implicitDefEqProofs (maxSteps := 4000000) only [go_sem, Tryd.f124, recT, c1, c2, c3]
 | false =>
  cases c3 : (r.kind == 3) with
  | true => simp +decide -implicitDefEqProofs (maxSteps := 4000000) only [go_sem, Tryd.f124, recT, c1, c3]
  | false => simp +decide -implicitDefEqProofs (maxSteps := 4000000) only [go_sem, Tryd.f124, recT, c1, c3]
theorem wGot_c {s : TV} {l : List WRec} (hs : bkT s l) (hl : l.length ≤ 1000000) (n : Int) : PCalls Tryd.prog 94 [s, .int .i64 n] (.int .i64 (fIxR (gotR n) l)) := by
 refine pcalls_by Tryd.mixes (Spec.frz_ok (Spec.one_ok (oneP_ok (wFirst_c hs hl (wGot1_c n))) noSpec_ok)) (fn := Tryd.f94) Tryd.func94 rfl (by kernel_rfl) (by show 2 ≤ _; decide) ?_
 simp +decide -implicitDefEqProofs (maxSteps := 4000000) only [go_sem, Tryd.f94, freezeW, freezeO, frzC, thawP, thawC]
theorem wBearer1_c (n d : Int) (r : WRec) : PCalls Tryd.prog 96 [.agg (recT r), .cptr [.int .i64 n], .cptr [.int .i64 d]] (.bool (goneD n d r)) := by
 refine pcalls_by Tryd.mixes (Spec.gdt_ok noSpec_ok) (fn := Tryd.f96) Tryd.func96 rfl (by kernel_rfl) (by show 3 ≤ _; decide) ?_
 unfold goneD
 cases c1 : (r.num == n) with
 | false => simp +decide -implicitDefEqProofs (maxSteps := 4000000) only [go_sem, Tryd.f96, recT, c1]
 | true =>
  by_cases c2 : r.day ≤ d
  ·cases c3 : (r.kind == 3) with
   | true => simp +decide -implicitDefEqProofs (maxSteps := 4000000) only [go_sem, Tryd.f96, recT, c1, c2, c3]
   | false => simp +decide -implicitDefEqProofs (maxSteps := 4000000) only [go_sem, Tryd.f96, recT, c1, c2, c3]
  ·simp +decide -implicitDefEqProofs (maxSteps := 4000000) only [go_sem, Tryd.f96, recT, c1, c2]
end Go.Proofs.YtdkboibnokipaaaDoor

namespace Go.Ow
open Go Go.RowKit Go.Pm
open Classical in
noncomputable def byP (s0 : TV) (g : Int → Option TV) : List TV → Option TV
 | [s, .int .i64 n] => if s = s0 then g n else none
 | _ => none
open Classical in
@[go_sem] theorem byP_eq (s0 s : TV) (g : Int → Option TV) (n : Int) : byP s0 g [s, .int .i64 n] = if s = s0 then g n else none := rfl
theorem byP_ok {P : Program} {f : FuncId} {s0 : TV} {g : Int → Option TV} (h : ∀ n v, g n = some v → PCalls P f [s0, .int .i64 n] v) : ∀ a r, byP s0 g a = some r → PCalls P f a r := by
 intro a r e
 unfold byP at e
 split at e
 ·split at e
  ·rename_i hc; subst hc; exact h _ _ e
  ·cases e
 ·cases e
def optI : Option Nat → Int
 | some i => i
 | none => -1
end Go.Ow
namespace Go.Proofs.YtdkboibnokipaaaDoor
open Go.RowKit Go.Pm Go.Ow
theorem wInstrument_c {l : List WRec} (f : Bool) (hl : l.length ≤ 40) (ho : okTo l l.length = true) {n : Int} {j0 i : Nat} (hj0 : gotN l n = some j0) (hi : cur l (j0 + 1) n = some i) : PCalls Tryd.prog 97 [.sl (recL l) l.length f, .int .i64 n] (.int .i64 i) := by
 refine pcalls_by Tryd.mixes (Spec.one_ok (byP_ok (s0 := .sl (recL l) l.length f) (g := fun n => some (.int .i64 (fIxR (gotR n) l))) fun n v e => by cases e; exact wGot_c (.inr ⟨f, rfl⟩) (by omega) n) noSpec_ok) (fn := Tryd.f97) Tryd.func97 rfl (by kernel_rfl) (by show 2 ≤ _; decide) ?_
 obtain ⟨r0, hr0, hg0⟩ := gotN_some hj0
 have e0 : fIxR (gotR n) l = j0 := by rw [gotN_ix, hj0]
 simp +decide -implicitDefEqProofs (maxSteps := 4000000) only [go_sem, Tryd.f97, e0]
 refine pwpC_loopU (A := { j : Nat // ∃ (m : Int) (r : WRec), l[j]? = some r ∧ gotR m r = true ∧ cur l (j + 1) m = some i }) [0] (fun j => [(5, .t (.int .i64 j.1))]) (fun _ => []) (fun j => j.1) ⟨j0, n, r0, hr0, hg0, hi⟩ (by decide) (fun _ => by rfl) ?_ fun Q1 hQ1 ⟨j, m, r, hr, hg, hc⟩ I1 hI1 => ?_
 ·simp +decide -implicitDefEqProofs (maxSteps := 4000000) only [go_sem]
 ·have hj := (List.getElem?_eq_some_iff.1 hr).1
  have hlt : (j : Int) < l.length := by omega
  have d1 := recL_at hr
  cases c1 : (r.kind == 3) with
  | true =>
   obtain ⟨j', r', h1, h2, h3, h4, h5⟩ := got_back ho hr hg (by simpa using c1) hc
   have e1 : fIxR (gotR r.num) l = j' := by rw [gotN_ix, h1]
   simp +decide -implicitDefEqProofs (maxSteps := 4000000) only [go_sem, hlt, d1, recT, c1, e1]
   refine hI1 _ ⟨j', _, r', h3, h4, h5⟩ (by simp only; omega) ?_
   simp +decide -implicitDefEqProofs (maxSteps := 4000000) only [go_sem]
  | false =>
   have e1 := got_end hr hg (by simpa using c1) hc
   subst e1
   simp +decide -implicitDefEqProofs (maxSteps := 4000000) only [go_sem, hlt, d1, recT, c1]
   refine hQ1 _ _ ?_
   simp +decide -implicitDefEqProofs (maxSteps := 4000000) only [go_sem]
noncomputable def spWb1 (l : List WRec) (s : TV) (n d : Int) (i : Nat) : Pm.Spec := (((noSpec.one 95 (oneP [.fn 96 [] [.cptr [.int .i64 n], .cptr [.int .i64 d]], s] (.int .i64 (fIxR (goneD n d) l)))).one 94 (oneP [s, .int .i64 n] (.int .i64 (fIxR (gotR n) l)))).one 97 (oneP [s, .int .i64 n] (.int .i64 i))).gdt.frz
noncomputable def spWb0 (l : List WRec) (s : TV) (n d : Int) : Pm.Spec := ((noSpec.one 95 (oneP [.fn 96 [] [.cptr [.int .i64 n], .cptr [.int .i64 d]], s] (.int .i64 (fIxR (goneD n d) l)))).one 94 (oneP [s, .int .i64 n] (.int .i64 (fIxR (gotR n) l)))).gdt.frz
theorem spWb0_ok {l : List WRec} {s : TV} (hs : bkT s l) (hl : l.length ≤ 40) (n d : Int) : SpecOk Tryd.prog (spWb0 l s n d) := Spec.frz_ok (Spec.gdt_ok (Spec.one_ok (oneP_ok (wGot_c hs (by omega) n)) (Spec.one_ok (oneP_ok (wFirst_c hs (by omega) (wBearer1_c n d))) noSpec_ok)))
theorem spWb1_ok {l : List WRec} {s : TV} (hs : bkT s l) (hl : l.length ≤ 40) (n d : Int) {i : Nat} (hi : PCalls Tryd.prog 97 [s, .int .i64 n] (.int .i64 i)) : SpecOk Tryd.prog (spWb1 l s n d i) := Spec.frz_ok (Spec.gdt_ok (Spec.one_ok (oneP_ok hi) (Spec.one_ok (oneP_ok (wGot_c hs (by omega) n)) (Spec.one_ok (oneP_ok (wFirst_c hs (by omega) (wBearer1_c n d))) noSpec_ok))))
theorem fIxR_any (p : WRec → Bool) (l : List WRec) : decide (fIxR p l ≥ 0) = l.any p := by
 unfold fIxR
 cases h : l.findIdx? p with
 | none =>
  rw [List.findIdx?_eq_none_iff] at h
  have : l.any p = false := by
   rw [List.any_eq_false]; intro x hx; rw [h x hx]; decide
  rw [this]; rfl
 | some i =>
  obtain ⟨hi, h1, _⟩ := List.findIdx?_eq_some_iff_getElem.1 h
  have : l.any p = true := List.any_eq_true.2 ⟨l[i], List.getElem_mem _, h1⟩
  rw [this]; simp
theorem wBearer_c {s : TV} {l : List WRec} (hs : bkT s l) (hb : bookB l = true) (n d : Int) : PCalls Tryd.prog 70 [s, .int .i64 n, .int .i64 d] (.int .i64 (optI (bearN l n d))) := by
 have hb' := hb
 unfold bookB at hb'
 simp only [Bool.and_eq_true, decide_eq_true_eq] at hb'
 obtain ⟨hl, ho⟩ := hb'
 cases hj : gotN l n with
 | none =>
  refine pcalls_by Tryd.mixes (spWb0_ok hs hl n d) (fn := Tryd.f70) Tryd.func70 rfl (by kernel_rfl) (by show 3 ≤ _; decide) ?_
  have e0 : fIxR (gotR n) l = -1 := by rw [gotN_ix, hj]
  have e1 : bearN l n d = none := bearN_none hj
  simp +decide -implicitDefEqProofs (maxSteps := 4000000) only [go_sem, Tryd.f70, spWb0, e0, e1, optI]
 | some j =>
  obtain ⟨r, hr, hg⟩ := gotN_some hj
  have hjl := (List.getElem?_eq_some_iff.1 hr).1
  obtain ⟨f, rfl⟩ : ∃ f, s = .sl (recL l) l.length f := by
   rcases hs with ⟨rfl, rfl⟩ | ⟨f, rfl⟩
   ·simp at hjl
   ·exact ⟨f, rfl⟩
  have e0 : fIxR (gotR n) l = j := by rw [gotN_ix, hj]
  have d1 := recL_at hr
  have hlt : (j : Int) < l.length := by omega
  have h0 : ¬ (j : Int) < 0 := by omega
  by_cases hd : r.day > d
  ·have e1 : bearN l n d = none := bearN_late ho hj hr hd
   refine pcalls_by Tryd.mixes (spWb0_ok hs hl n d) (fn := Tryd.f70) Tryd.func70 rfl (by kernel_rfl) (by show 3 ≤ _; decide) ?_
   simp +decide -implicitDefEqProofs (maxSteps := 4000000) only [go_sem, Tryd.f70, spWb0, e0, e1, optI, d1, recT, hlt, h0, hd]
  ·have e1 := bearN_gone ho hj hr (show r.day ≤ d by omega)
   obtain ⟨i, hi⟩ := got_born ho hr hg
   have ha := fIxR_any (goneD n d) l
   cases hany : l.any (goneD n d) with
   | true =>
    rw [hany, if_pos rfl] at e1
    rw [hany] at ha
    refine pcalls_by Tryd.mixes (spWb0_ok hs hl n d) (fn := Tryd.f70) Tryd.func70 rfl (by kernel_rfl) (by show 3 ≤ _; decide) ?_
    simp +decide -implicitDefEqProofs (maxSteps := 4000000) only [go_sem, Tryd.f70, spWb0, e0, e1, optI, d1, recT, hlt, h0, hd, freezeW, freezeO, frzC, thawP, thawC, ha]
   | false =>
    rw [hany, if_neg (by decide), hi] at e1
    rw [hany] at ha
    refine pcalls_by Tryd.mixes (spWb1_ok hs hl n d (wInstrument_c f hl ho hj hi)) (fn := Tryd.f70) Tryd.func70 rfl (by kernel_rfl) (by show 3 ≤ _; decide) ?_
    simp +decide -implicitDefEqProofs (maxSteps := 4000000) only [go_sem, Tryd.f70, spWb1, e0, e1, optI, d1, recT, hlt, h0, hd, freezeW, freezeO, frzC, thawP, thawC, ha]
end Go.Proofs.YtdkboibnokipaaaDoor

namespace Go.Ow
open Go Go.RowKit Go.Pm
def traceP (l : List WRec) (n d : Int) : Int × Int := if bookB l then (if inW n 1 99999 && inW d 0 100000 then (match bearN l n d with | some i => ((i : Int), 0) | none => (0, 4)) else (0, 93)) else (0, 92)
def txT (l : List ByteArray) : TV := if l.length = 0 then .nilSl else .sl (l.map .str) l.length false
theorem txT_nil : txT [] = .nilSl := rfl
theorem txT_ne {l : List ByteArray} (h : ¬ l.length = 0) : txT l = .sl (l.map .str) l.length false := if_neg h
end Go.Ow
namespace Go.Proofs.YtdkboibnokipaaaDoor
open Go.RowKit Go.Pm Go.Ow
theorem bookB_iff {l : List WRec} : bookB l = true ↔ l.length ≤ 40 ∧ okTo l l.length = true := by unfold bookB; simp
theorem wTrace_c {s : TV} {l : List WRec} (hs : bkT s l) (hL : l.length ≤ 140737488355328) (n d : Int) : PCalls Tryd.prog 26 [s, .int .i64 n, .int .i64 d] (.tup [.int .i64 (traceP l n d).1, .int .i64 (traceP l n d).2]) := by
 cases hb : bookB l with
 | false =>
  have e : traceP l n d = (0, 92) := by unfold traceP; rw [hb]; rfl
  rw [e]
  refine pcalls_by Tryd.mixes (Spec.one_ok (oneP_ok (wCheckBook_c hs hL)) noSpec_ok) (fn := Tryd.f26) Tryd.func26 rfl (by kernel_rfl) (by show 3 ≤ _; decide) ?_
  simp +decide -implicitDefEqProofs (maxSteps := 4000000) only [go_sem, Tryd.f26, hb]
 | true =>
  have hl := (bookB_iff.1 hb).1
  have hB : ∀ n d, PCalls Tryd.prog 70 [s, .int .i64 n, .int .i64 d] (.int .i64 (optI (bearN l n d))) := fun n d => wBearer_c hs hb n d
  refine pcalls_by Tryd.mixes (Spec.gdt_ok (Spec.one_ok (oneP_ok (hB n d)) (Spec.one_ok wkIsDay_ok (Spec.one_ok wkIsNumber_ok (Spec.one_ok (oneP_ok (wCheckBook_c hs hL)) noSpec_ok))))) (fn := Tryd.f26) Tryd.func26 rfl (by kernel_rfl) (by show 3 ≤ _; decide) ?_
  cases c1 : inW n 1 99999 with
  | false =>
   have e : traceP l n d = (0, 93) := by unfold traceP; rw [hb, c1]; rfl
   rw [e]
   simp +decide -implicitDefEqProofs (maxSteps := 4000000) only [go_sem, Tryd.f26, hb, c1]
  | true =>
   cases c2 : inW d 0 100000 with
   | false =>
    have e : traceP l n d = (0, 93) := by unfold traceP; rw [hb, c1, c2]; rfl
    rw [e]
    simp +decide -implicitDefEqProofs (maxSteps := 4000000) only [go_sem, Tryd.f26, hb, c1, c2]
   | true =>
    cases c3 : bearN l n d with
    | none =>
     have e : traceP l n d = (0, 4) := by unfold traceP; rw [hb, c1, c2, c3]; rfl
     rw [e]
     simp +decide -implicitDefEqProofs (maxSteps := 4000000) only [go_sem, Tryd.f26, hb, c1, c2, c3, optI]
    | some i =>
     have e : traceP l n d = ((i : Int), 0) := by unfold traceP; rw [hb, c1, c2, c3]; rfl
     have h0 : ¬ (i : Int) < 0 := by omega
     rw [e]
     simp +decide -implicitDefEqProofs (maxSteps := 4000000) only [go_sem, Tryd.f26, hb, c1, c2, c3, optI, h0]
theorem wMarks_c {l : List WRec} (f : Bool) (hb : bookB l = true) (i : Nat) (d : Int) : PCalls Tryd.prog 75 [.sl (recL l) l.length f, .int .i64 i, .int .i64 d] (txT (marksK l i d l.length)) := by
 obtain ⟨hl, ho⟩ := bookB_iff.1 hb
 have hI : ∀ n v, ((match gotN l n with | some j => (cur l (j + 1) n).map fun (i : Nat) => TV.int .i64 (i : Int) | none => none) : Option TV) = some v → PCalls Tryd.prog 97 [.sl (recL l) l.length f, .int .i64 n] v := by
  intro n v e
  split at e
  ·rename_i j hj
   obtain ⟨i, hi, he⟩ := Option.map_eq_some_iff.1 e
   subst he
   exact wInstrument_c f hl ho hj hi
  ·cases e
 refine pcalls_by Tryd.mixes (Spec.gdt_ok (Spec.one_ok (byP_ok hI) noSpec_ok)) (fn := Tryd.f75) Tryd.func75 rfl (by kernel_rfl) (by show 3 ≤ _; decide) ?_
 simp +decide -implicitDefEqProofs (maxSteps := 4000000) only [go_sem, Tryd.f75]
 refine pwpC_loopU (A := { k : Nat // k ≤ l.length }) [0, 1, 2, 10, 11] (fun k => [(12, .t (.int .i64 k.1)), (7, .own ((marksK l i d k.1).map .str) (marksK l i d k.1).length 0)]) (fun k => [(0, .tok (marksK l i d k.1).length 9)]) (fun k => l.length - k.1) ⟨0, by omega⟩ (by decide) (fun _ => by rfl) ?_ fun Q1 hQ1 ⟨k, hk⟩ I1 hI1 => ?_
 ·simp +decide -implicitDefEqProofs (maxSteps := 4000000) only [go_sem, marksK, List.length_nil]
  first | done | exact ⟨rfl, rfl⟩ | rfl | trace_state
 ·by_cases hlt : (k : Int) < l.length
  ·obtain ⟨r, hr⟩ : ∃ r, l[k]? = some r := ⟨_, List.getElem?_eq_getElem (by omega)⟩
   have d1 := recL_at hr
   have hle : k * 5 + 5 ≤ (recL l).length := by rw [recL_len]; omega
   have hk1 := Go.Pm.wS (k := k) (by omega)
   have hms := marksK_succ (i := i) (d := d) hr
   have hml := marksK_len (l := l) (i := i) (d := d) (k := k)
   have hR := ok_rec ho (by omega) hr
   have skip : ¬ (r.kind = 2 ∧ r.day ≤ d ∧ cur l k r.num = some i) → marksK l i d (k + 1) = marksK l i d k := fun h => by rw [hms, if_neg h, List.append_nil]
   cases c1 : (r.kind == 2) with
   | false =>
    have e := skip (fun h => by rw [h.1] at c1; cases c1)
    simp +decide -implicitDefEqProofs (maxSteps := 4000000) only [go_sem, hlt, d1, hle, recT, c1]
    refine hI1 _ ⟨k + 1, by omega⟩ (by simp only; omega) ?_
    simp +decide -implicitDefEqProofs (maxSteps := 4000000) only [go_sem, hk1, e]
   | true =>
    by_cases c2 : r.day ≤ d
    ·have hu := (hR.mend (by simpa using c1)).2.2
     rw [used_cur (ok_less ho (by omega)) hR.num.1] at hu
     obtain ⟨x, hx⟩ := Option.isSome_iff_exists.1 hu
     obtain ⟨j', r', g1, g2, g3⟩ := cur_has hx
     have hf := cur_first ho (by omega) hx (by omega) g2 g3
     have hgn := gotN_of ho g2 g3
     cases c3 : ((x : Int) == i) with
     | false =>
      have hxi : x ≠ i := fun e => by rw [e] at c3; simp at c3
      have e := skip (fun h => by rw [hx] at h; exact hxi (Option.some.inj h.2.2))
      simp +decide -implicitDefEqProofs (maxSteps := 4000000) only [go_sem, hlt, d1, hle, recT, c1, c2, hgn, hf.2, c3]
      refine hI1 _ ⟨k + 1, by omega⟩ (by simp only; omega) ?_
      simp +decide -implicitDefEqProofs (maxSteps := 4000000) only [go_sem, hk1, e]
     | true =>
      have hxi : x = i := by have := beq_iff_eq.1 c3; omega
      have e : marksK l i d (k + 1) = marksK l i d k ++ [r.by_] := by rw [hms, if_pos ⟨by simpa using c1, c2, by rw [hx, hxi]⟩]
      have e1 : (marksK l i d (k + 1)).map TV.str = (marksK l i d k).map TV.str ++ [.str r.by_] := by rw [e, List.map_append]; rfl
      have e2 : (marksK l i d (k + 1)).length = (marksK l i d k).length + 1 := by rw [e, List.length_append]; rfl
      have hr16 : ((marksK l i d k).length + 1) * 16 ≤ 140737488355328 := by omega
      have hlm : ((marksK l i d k).map TV.str).length = (marksK l i d k).length := List.length_map _
      simp +decide -implicitDefEqProofs (maxSteps := 4000000) only [go_sem, hlt, d1, hle, recT, c1, c2, hgn, hf.2, c3, hr16, hlm, Nat.mul_one]
      refine hI1 _ ⟨k + 1, by omega⟩ (by simp only; omega) ?_
      simp +decide -implicitDefEqProofs (maxSteps := 4000000) only [go_sem, hk1, e1, e2]
    ·have e := skip (fun h => c2 h.2.1)
     simp +decide -implicitDefEqProofs (maxSteps := 4000000) only [go_sem, hlt, d1, hle, recT, c1, c2]
     refine hI1 _ ⟨k + 1, by omega⟩ (by simp only; omega) ?_
     simp +decide -implicitDefEqProofs (maxSteps := 4000000) only [go_sem, hk1, e]
  ·have hke : k = l.length := by omega
   subst hke
   simp +decide -implicitDefEqProofs (maxSteps := 4000000) only [go_sem, hlt]
   refine hQ1 _ _ ?_
   simp +decide -implicitDefEqProofs (maxSteps := 4000000) only [go_sem, txT]
end Go.Proofs.YtdkboibnokipaaaDoor

namespace Go.Ow
open Go Go.RowKit Go.Pm
structure WCl where
 num : Int
 day : Int
 maker : ByteArray
 made : Int
 marks : List ByteArray
def clT (c : WCl) (s : TV) : TV := .agg [.int .i64 c.num, .int .i64 c.day, .str c.maker, .int .i64 c.made, s]
def headOk (c : WCl) : Bool := inW c.num 1 99999 && (inW c.day 0 100000 && (nameB c.maker && (inW c.made 0 100000 && decide (c.marks.length ≤ 40))))
def diffAt (a b : List ByteArray) (k : Nat) : Bool := decide (a.length ≤ k) || (decide (b.length ≤ k) || !decide (a.getD k ByteArray.empty = b.getD k ByteArray.empty))
def diffP (a b : List ByteArray) : Option Nat := (List.range (max a.length b.length)).find? (diffAt a b)
theorem diffP_some {a b : List ByteArray} {k : Nat} (hk : k < max a.length b.length) (hno : ∀ j, j < k → diffAt a b j = false) (h : diffAt a b k = true) : diffP a b = some k := by
 unfold diffP
 rw [List.find?_range_eq_some]
 exact ⟨h, List.mem_range.2 hk, fun j hj => by rw [hno j hj]; rfl⟩
theorem diffP_none {a b : List ByteArray} (hno : ∀ j, j < max a.length b.length → diffAt a b j = false) : diffP a b = none := by
 unfold diffP
 rw [List.find?_eq_none]
 intro j hj
 rw [hno j (List.mem_range.1 hj)]; decide
def judgeP (l : List WRec) (c : WCl) : (Int × Int) × Int :=
 if bookB l then
  if headOk c && c.marks.all nameB then
   match bearN l c.num c.day with
   | none => ((1, 0), 0)
   | some i => match l[i]? with
    | none => ((0, 0), 0)
    | some r => if ¬ r.by_ = c.maker then ((2, 0), 0) else if ¬ r.day = c.made then ((3, 0), 0) else
     match diffP (marksK l i c.day l.length) c.marks with
     | some k => ((4, (k : Int)), 0)
     | none => ((0, 0), 0)
  else ((0, 0), 93)
 else ((0, 0), 92)
def judT (x : (Int × Int) × Int) : TV := .tup [.agg [.int .i64 x.1.1, .int .i64 x.1.2], .int .i64 x.2]
theorem beqS (a b : ByteArray) : (a.toList == b.toList) = decide (a = b) := by
 rw [Bool.eq_iff_iff, beq_iff_eq, decide_eq_true_eq, ByteArray.toList_eq, ByteArray.toList_eq]
 constructor
 ·intro h
  cases a; cases b
  simp only [ByteArray.mk.injEq] at *
  exact Array.toList_inj.1 h
 ·rintro rfl; rfl
theorem txT_R (l : List ByteArray) : txR (txT l) l := by
 unfold txT
 split
 ·rename_i h; exact .inl ⟨rfl, List.eq_nil_of_length_eq_zero h⟩
 ·exact .inr ⟨false, rfl⟩
open Classical in
noncomputable def by2P (s0 : TV) (g : Int → Int → Option TV) : List TV → Option TV
 | [s, .int .i64 a, .int .i64 b] => if s = s0 then g a b else none
 | _ => none
open Classical in
@[go_sem] theorem by2P_eq (s0 s : TV) (g : Int → Int → Option TV) (a b : Int) : by2P s0 g [s, .int .i64 a, .int .i64 b] = if s = s0 then g a b else none := rfl
theorem by2P_ok {P : Program} {f : FuncId} {s0 : TV} {g : Int → Int → Option TV} (h : ∀ a b v, g a b = some v → PCalls P f [s0, .int .i64 a, .int .i64 b] v) : ∀ a r, by2P s0 g a = some r → PCalls P f a r := by
 intro a r e
 unfold by2P at e
 split at e
 ·split at e
  ·rename_i hc; subst hc; exact h _ _ _ e
  ·cases e
 ·cases e
end Go.Ow
namespace Go.Proofs.YtdkboibnokipaaaDoor
open Go.RowKit Go.Pm Go.Ow
noncomputable def spWk (l : List WRec) (s : TV) (g : Int → Int → Option TV) (h : Int → Int → Option TV) : Pm.Spec := (((((((spWa.one 68 wkIsNumber).one 69 wkIsDay).one 74 wkIsName).one 28 (oneP [s] (.int .i64 (if bookB l then 0 else 92)))).one 70 (by2P s g)).one 75 (by2P s h))).gdt
theorem spWk_ok {l : List WRec} {s : TV} {g h : Int → Int → Option TV} (hs : bkT s l) (hL : l.length ≤ 140737488355328) (hg : ∀ a b v, g a b = some v → PCalls Tryd.prog 70 [s, .int .i64 a, .int .i64 b] v) (hh : ∀ a b v, h a b = some v → PCalls Tryd.prog 75 [s, .int .i64 a, .int .i64 b] v) : SpecOk Tryd.prog (spWk l s g h) := Spec.gdt_ok (Spec.one_ok (by2P_ok hh) (Spec.one_ok (by2P_ok hg) (Spec.one_ok (oneP_ok (wCheckBook_c hs hL)) (Spec.one_ok wkIsName_ok (Spec.one_ok wkIsDay_ok (Spec.one_ok wkIsNumber_ok spWa_ok))))))
theorem wJudge_c {s m : TV} {l : List WRec} {c : WCl} (hs : bkT s l) (hL : l.length ≤ 140737488355328) (hm : txR m c.marks) (hM : c.marks.length ≤ 140737488355328) : PCalls Tryd.prog 30 [s, clT c m] (judT (judgeP l c)) := by
 obtain ⟨num, day, maker, made, marks⟩ := c
 simp only at hm hM
 rcases Bool.eq_false_or_eq_true (bookB l) with hb | hb
 rotate_left
 ·have e : judgeP l ⟨num, day, maker, made, marks⟩ = ((0, 0), 92) := by unfold judgeP; rw [hb]; rfl
  rw [e]
  refine pcalls_by Tryd.mixes (spWk_ok (g := fun _ _ => none) (h := fun _ _ => none) hs hL (fun _ _ _ h => by cases h) (fun _ _ _ h => by cases h)) (fn := Tryd.f30) Tryd.func30 rfl (by kernel_rfl) (by show 2 ≤ _; decide) ?_
  simp +decide -implicitDefEqProofs (maxSteps := 4000000) only [go_sem, Tryd.f30, hb, clT, judT, spWk]
 ·obtain ⟨hl, hok⟩ := bookB_iff.1 hb
  have hMk : ∀ a b v, (if 0 ≤ a ∧ l ≠ [] then some (txT (marksK l a.toNat b l.length)) else none) = some v → PCalls Tryd.prog 75 [s, .int .i64 a, .int .i64 b] v := by
   intro a b v h
   split at h
   ·rename_i hc
    cases h
    rcases hs with ⟨_, e⟩ | ⟨f, rfl⟩
    ·exact absurd e hc.2
    ·have := wMarks_c f hb a.toNat b
     rwa [Int.toNat_of_nonneg hc.1] at this
   ·cases h
  have hBr : ∀ a b v, some (TV.int .i64 (optI (bearN l a b))) = some v → PCalls Tryd.prog 70 [s, .int .i64 a, .int .i64 b] v := fun a b v h => by cases h; exact wBearer_c hs hb a b
  refine pcalls_by Tryd.mixes (spWk_ok hs hL hBr hMk) (fn := Tryd.f30) Tryd.func30 rfl (by kernel_rfl) (by show 2 ≤ _; decide) ?_
  rcases Bool.eq_false_or_eq_true (headOk ⟨num, day, maker, made, marks⟩) with ho | ho
  rotate_left
  ·have e : judgeP l ⟨num, day, maker, made, marks⟩ = ((0, 0), 93) := by unfold judgeP; rw [hb, ho]; rfl
   rw [e]
   have h5 : inW num 1 99999 = false ∨ (inW num 1 99999 = true ∧ (inW day 0 100000 = false ∨ (inW day 0 100000 = true ∧ (nameB maker = false ∨ (nameB maker = true ∧ (inW made 0 100000 = false ∨ (inW made 0 100000 = true ∧ ¬ (marks.length : Int) ≤ 40))))))) := by
    have ho : (inW num 1 99999 && (inW day 0 100000 && (nameB maker && (inW made 0 100000 && decide (marks.length ≤ 40))))) = false := ho
    by_cases h40 : marks.length ≤ 40
    ·rw [decide_eq_true h40] at ho
     revert ho
     cases inW num 1 99999 <;> cases inW day 0 100000 <;> cases nameB maker <;> cases inW made 0 100000 <;> simp
    ·have : ¬ (marks.length : Int) ≤ 40 := by omega
     cases inW num 1 99999 <;> cases inW day 0 100000 <;> cases nameB maker <;> cases inW made 0 100000 <;> simp [this]
   rcases hm with ⟨rfl, hn⟩ | ⟨gf, rfl⟩
   all_goals rcases h5 with c1 | ⟨c1, c2 | ⟨c2, c3 | ⟨c3, c4 | ⟨c4, c5⟩⟩⟩⟩
   all_goals first
    | (exfalso; rw [hn] at c5; simp at c5; done)
    | simp +decide -implicitDefEqProofs (maxSteps := 4000000) only [go_sem, Tryd.f30, hb, clT, judT, spWk, c1, c2, c3, c4, c5]
    | simp +decide -implicitDefEqProofs (maxSteps := 4000000) only [go_sem, Tryd.f30, hb, clT, judT, spWk, c1, c2, c3, c4]
    | simp +decide -implicitDefEqProofs (maxSteps := 4000000) only [go_sem, Tryd.f30, hb, clT, judT, spWk, c1, c2, c3]
    | simp +decide -implicitDefEqProofs (maxSteps := 4000000) only [go_sem, Tryd.f30, hb, clT, judT, spWk, c1, c2]
    | simp +decide -implicitDefEqProofs (maxSteps := 4000000) only [go_sem, Tryd.f30, hb, clT, judT, spWk, c1]
   all_goals
    refine pwpC_loopU (A := { k : Nat // k ≤ marks.length }) [3, 4, 5, 45, 46] (fun k => [(47, .t (.int .i64 k.1)), (7, .t (.bool false))]) (fun _ => []) (fun k => marks.length - k.1) ⟨0, Nat.zero_le _⟩ (by decide) (fun _ => by rfl) ?_ fun Q1 hQ1 ⟨k, hk⟩ I1 hI1 => ?_
    ·simp +decide -implicitDefEqProofs (maxSteps := 4000000) only [go_sem]
    ·have h00 : ¬ (k : Int) < 0 := by omega
     by_cases hlt : (k : Int) < marks.length
     ·first
       | (exfalso; rw [hn] at hlt; simp at hlt; omega)
       | (obtain ⟨x, hx⟩ : ∃ x, marks[k]? = some x := ⟨_, List.getElem?_eq_getElem (by omega)⟩
          have d1 := txs_at hx
          have hk1 := Go.Pm.wS (k := k) (by omega)
          simp +decide -implicitDefEqProofs (maxSteps := 4000000) only [go_sem, hlt, d1, Nat.mul_one]
          refine hI1 _ ⟨k + 1, by omega⟩ (by simp only; omega) ?_
          simp +decide -implicitDefEqProofs (maxSteps := 4000000) only [go_sem, hk1])
     ·simp +decide -implicitDefEqProofs (maxSteps := 4000000) only [go_sem, hlt, h00]
      refine hQ1 _ _ ?_
      simp +decide -implicitDefEqProofs (maxSteps := 4000000) only [go_sem, judT]
  ·have ho' := ho
   unfold headOk at ho'
   simp only [Bool.and_eq_true, decide_eq_true_eq] at ho'
   obtain ⟨c1, c2, c3, c4, c5⟩ := ho'
   have c5' : (marks.length : Int) ≤ 40 := by omega
   rcases hm with ⟨rfl, hn⟩ | ⟨gf, rfl⟩
   all_goals simp +decide -implicitDefEqProofs (maxSteps := 4000000) only [go_sem, Tryd.f30, hb, clT, spWk, c1, c2, c3, c4, c5']
   all_goals
    refine pwpC_loopU (A := { k : Nat // k ≤ marks.length }) [0, 3, 4, 5, 45, 46] (fun k => [(47, .t (.int .i64 k.1)), (7, .t (.bool ((marks.take k.1).all nameB)))]) (fun _ => []) (fun k => marks.length - k.1) ⟨0, Nat.zero_le _⟩ (by decide) (fun _ => by rfl) ?_ fun Q1 hQ1 ⟨k, hk⟩ I1 hI1 => ?_
    ·simp +decide -implicitDefEqProofs (maxSteps := 4000000) only [go_sem, List.take_zero, List.all_nil]
    ·have h00 : ¬ (k : Int) < 0 := by omega
     by_cases hlt : (k : Int) < marks.length
     ·first
       | (exfalso; rw [hn] at hlt; simp at hlt; omega)
       | (obtain ⟨x, hx⟩ : ∃ x, marks[k]? = some x := ⟨_, List.getElem?_eq_getElem (by omega)⟩
          have d1 := txs_at hx
          have hk1 := Go.Pm.wS (k := k) (by omega)
          have hta : (marks.take (k + 1)).all nameB = ((marks.take k).all nameB && nameB x) := by rw [List.take_add_one, hx, List.all_append]; simp
          rcases Bool.eq_false_or_eq_true ((marks.take k).all nameB) with ht | ht
          ·rw [ht, Bool.true_and] at hta
           simp +decide -implicitDefEqProofs (maxSteps := 4000000) only [go_sem, hlt, d1, Nat.mul_one, ht]
           refine hI1 _ ⟨k + 1, by omega⟩ (by simp only; omega) ?_
           simp +decide -implicitDefEqProofs (maxSteps := 4000000) only [go_sem, hk1, hta]
          ·rw [ht, Bool.false_and] at hta
           simp +decide -implicitDefEqProofs (maxSteps := 4000000) only [go_sem, hlt, d1, Nat.mul_one, ht]
           refine hI1 _ ⟨k + 1, by omega⟩ (by simp only; omega) ?_
           simp +decide -implicitDefEqProofs (maxSteps := 4000000) only [go_sem, hk1, hta])
     ·have hke : k = marks.length := by omega
      subst hke
      rcases Bool.eq_false_or_eq_true (marks.all nameB) with ha | ha
      rotate_left
      ·have e : judgeP l ⟨num, day, maker, made, marks⟩ = ((0, 0), 93) := by unfold judgeP; rw [hb, ho]; simp only [ha]; rfl
       simp +decide -implicitDefEqProofs (maxSteps := 4000000) only [go_sem, hlt, h00, List.take_length, ha]
       refine hQ1 _ _ ?_
       simp +decide -implicitDefEqProofs (maxSteps := 4000000) only [go_sem, judT, e, List.take_length, ha]
      ·have e : judgeP l ⟨num, day, maker, made, marks⟩ = (match bearN l num day with
         | none => ((1, 0), 0)
         | some i => match l[i]? with
          | none => ((0, 0), 0)
          | some r => if ¬ r.by_ = maker then ((2, 0), 0) else if ¬ r.day = made then ((3, 0), 0) else
           match diffP (marksK l i day l.length) marks with
           | some k => ((4, (k : Int)), 0)
           | none => ((0, 0), 0)) := by unfold judgeP; rw [hb, ho]; simp only [ha]; rfl
       cases hB : bearN l num day with
       | none =>
        rw [hB] at e
        simp +decide -implicitDefEqProofs (maxSteps := 4000000) only [go_sem, hlt, h00, List.take_length, ha]
        refine hQ1 _ _ ?_
        simp +decide -implicitDefEqProofs (maxSteps := 4000000) only [go_sem, judT, e, List.take_length, ha, hB, optI]
       | some i =>
        rw [hB] at e
        obtain ⟨r, hr, hk1⟩ := cur_made hB
        simp only [hr] at e
        have hil := (List.getElem?_eq_some_iff.1 hr).1
        have hlt2 : (i : Int) < l.length := by omega
        have hi0 : ¬ (i : Int) < 0 := by omega
        have hne : ¬ l = [] := fun e => by rw [e] at hil; simp at hil
        have d1 := recL_at hr
        obtain ⟨f, rfl⟩ : ∃ f, s = .sl (recL l) l.length f := by
         rcases hs with ⟨rfl, e⟩ | ⟨f, rfl⟩
         ·exact absurd e hne
         ·exact ⟨f, rfl⟩
        have hbs := beqS r.by_ maker
        by_cases hmk : r.by_ = maker
        rotate_left
        ·rw [if_pos hmk] at e
         rw [decide_eq_false hmk] at hbs
         simp +decide -implicitDefEqProofs (maxSteps := 4000000) only [go_sem, hlt, h00, List.take_length, ha]
         refine hQ1 _ _ ?_
         simp +decide -implicitDefEqProofs (maxSteps := 4000000) only [go_sem, judT, e, List.take_length, ha, hB, optI, hi0, hlt2, d1, recT, hbs]
        ·rw [if_neg (fun h => h hmk)] at e
         rw [decide_eq_true hmk] at hbs
         by_cases hmd : r.day = made
         rotate_left
         ·rw [if_pos hmd] at e
          have hmd' := bne_int_t hmd
          simp +decide -implicitDefEqProofs (maxSteps := 4000000) only [go_sem, hlt, h00, List.take_length, ha]
          refine hQ1 _ _ ?_
          simp +decide -implicitDefEqProofs (maxSteps := 4000000) only [go_sem, judT, e, List.take_length, ha, hB, optI, hi0, hlt2, d1, recT, hbs, hmd']
         ·rw [if_neg (fun h => h hmd)] at e
          have hmd' := bne_int_f hmd
          have htl := marksK_len (l := l) (i := i) (d := day) (k := l.length)
          simp +decide -implicitDefEqProofs (maxSteps := 4000000) only [go_sem, hlt, h00, List.take_length, ha]
          refine hQ1 _ _ ?_
          generalize hM2 : marksK l i day l.length = M at *
          by_cases hM0 : M.length = 0
          all_goals simp +decide -implicitDefEqProofs (maxSteps := 4000000) only [go_sem, List.take_length, ha, hB, optI, hi0, hlt2, d1, recT, hbs, hmd', hne, hM2, txT, hM0]
          all_goals
           refine pwpC_loopU (A := { k : Nat // k ≤ max M.length marks.length ∧ ∀ j, j < k → diffAt M marks j = false }) [3, 4, 5, 12] (fun k => [(102, .t (.int .i64 k.1)), (101, .t (.int .i64 ((max M.length marks.length : Nat) : Int)))]) (fun _ => []) (fun k => max M.length marks.length - k.1) ⟨0, Nat.zero_le _, fun j hj => absurd hj (by omega)⟩ (by decide) (fun _ => by rfl) ?_ fun Q2 hQ2 ⟨k, hk, hno⟩ I2 hI2 => ?_
           ·have hml : marks.length = marks.length := rfl
            simp +decide -implicitDefEqProofs (maxSteps := 4000000) only [go_sem]
            first | done | omega | (rw [hn]; simp only [List.length_nil]; omega)
           ·have hk1 := Go.Pm.wS (k := k) (by omega)
            by_cases hlt3 : (k : Int) < ((max M.length marks.length : Nat) : Int)
            ·have h1z : (k : Int) ≥ 0 := by omega
             by_cases h1 : (k : Int) ≥ M.length
             ·have hdf : diffAt M marks k = true := by unfold diffAt; rw [decide_eq_true (show M.length ≤ k by omega)]; rfl
              have hdp := diffP_some (by omega) hno hdf
              rw [hdp] at e
              simp +decide -implicitDefEqProofs (maxSteps := 4000000) only [go_sem, hlt3, h1, h1z]
              refine hQ2 _ _ ?_
              simp +decide -implicitDefEqProofs (maxSteps := 4000000) only [go_sem, e, judT]
             ·by_cases h2 : (k : Int) ≥ marks.length
              ·have hdf : diffAt M marks k = true := by unfold diffAt; rw [decide_eq_true (show marks.length ≤ k by omega)]; simp
               have hdp := diffP_some (by omega) hno hdf
               rw [hdp] at e
               first
                | (exfalso; omega)
                | (simp +decide -implicitDefEqProofs (maxSteps := 4000000) only [go_sem, hlt3, h1, h2, h1z]
                   refine hQ2 _ _ ?_
                   simp +decide -implicitDefEqProofs (maxSteps := 4000000) only [go_sem, e, judT])
              ·first
                | (exfalso; omega)
                | (exfalso; rw [hn] at h2; simp only [List.length_nil] at h2; omega)
                | (obtain ⟨x, hx⟩ : ∃ x, M[k]? = some x := ⟨_, List.getElem?_eq_getElem (by omega)⟩
                   obtain ⟨y, hy⟩ : ∃ x, marks[k]? = some x := ⟨_, List.getElem?_eq_getElem (by omega)⟩
                   have dx := txs_at hx
                   have dy := txs_at hy
                   have h1' : (k : Int) < M.length := by omega
                   have h2' : (k : Int) < marks.length := by omega
                   have gx : M.getD k ByteArray.empty = x := by rw [List.getD_eq_getElem?_getD, hx]; rfl
                   have gy : marks.getD k ByteArray.empty = y := by rw [List.getD_eq_getElem?_getD, hy]; rfl
                   have hxy := beqS x y
                   have hdd : diffAt M marks k = !decide (x = y) := by unfold diffAt; rw [gx, gy, decide_eq_false (show ¬ M.length ≤ k by omega), decide_eq_false (show ¬ marks.length ≤ k by omega)]; rfl
                   by_cases he : x = y
                   ·rw [decide_eq_true he] at hxy hdd
                    simp +decide -implicitDefEqProofs (maxSteps := 4000000) only [go_sem, hlt3, h1, h2, h1', h2', dx, dy, Nat.mul_one, hxy]
                    refine hI2 _ ⟨k + 1, by omega, fun j hj => ?_⟩ (by simp only; omega) ?_
                    ·by_cases ej : j = k
                     ·subst ej; exact hdd
                     ·exact hno j (by omega)
                    ·simp +decide -implicitDefEqProofs (maxSteps := 4000000) only [go_sem, hk1]
                   ·rw [decide_eq_false he] at hxy hdd
                    have hdp := diffP_some (by omega) hno hdd
                    rw [hdp] at e
                    simp +decide -implicitDefEqProofs (maxSteps := 4000000) only [go_sem, hlt3, h1, h2, h1', h2', dx, dy, Nat.mul_one, hxy]
                    refine hQ2 _ _ ?_
                    simp +decide -implicitDefEqProofs (maxSteps := 4000000) only [go_sem, e, judT])
            ·have hdp : diffP M marks = none := diffP_none fun j hj => hno j (by omega)
             rw [hdp] at e
             simp +decide -implicitDefEqProofs (maxSteps := 4000000) only [go_sem, hlt3]
             refine hQ2 _ _ ?_
             simp +decide -implicitDefEqProofs (maxSteps := 4000000) only [go_sem, e, judT]
end Go.Proofs.YtdkboibnokipaaaDoor

namespace Go.Ow
open Go Go.RowKit Go.Pm
end Go.Ow
namespace Go.Proofs.YtdkboibnokipaaaDoor
open Go.RowKit Go.Pm Go.Ow
theorem txR_len {s : TV} {l : List ByteArray} (h : txR s l) : (l.length = 0 ∧ (s = .nilSl ∨ ∃ f, s = .sl [] 0 f) ∧ l = []) ∨ (0 < l.length ∧ ∃ f, s = .sl (l.map .str) l.length f) := by
 rcases h with ⟨rfl, rfl⟩ | ⟨f, rfl⟩
 ·exact .inl ⟨rfl, .inl rfl, rfl⟩
 ·cases l with
  | nil => exact .inl ⟨rfl, .inr ⟨f, rfl⟩, rfl⟩
  | cons x l => exact .inr ⟨Nat.succ_pos _, f, rfl⟩
theorem rSameTexts_c {s t : TV} {l m : List ByteArray} (h1 : txR s l) (h2 : txR t m) (hb : l.length ≤ 140737488355328) : PCalls Tryd.prog 56 [s, t] (.bool (decide (l = m))) := by
 refine pcalls_by Tryd.mixes noSpec_ok (fn := Tryd.f56) Tryd.func56 rfl (by kernel_rfl) (by show 2 ≤ _; decide) ?_
 rcases txR_len h1 with ⟨_, hs, rfl⟩ | ⟨hl, f, rfl⟩
 ·rcases txR_len h2 with ⟨_, ht, rfl⟩ | ⟨hm, g, rfl⟩
  ·rcases hs with rfl | ⟨f, rfl⟩
   all_goals rcases ht with rfl | ⟨g, rfl⟩
   all_goals
    simp +decide -implicitDefEqProofs (maxSteps := 4000000) only [go_sem, Tryd.f56]
    refine pwpC_loopU (A := Unit) [0, 1] (fun _ => [(5, .t (.int .i64 0))]) (fun _ => []) (fun _ => 0) () (by decide) (fun _ => by rfl) ?_ fun Q1 hQ1 ⟨⟩ I1 hI1 => ?_
    ·simp +decide -implicitDefEqProofs (maxSteps := 4000000) only [go_sem]
    ·simp +decide -implicitDefEqProofs (maxSteps := 4000000) only [go_sem]
     refine hQ1 _ _ ?_
     simp +decide -implicitDefEqProofs (maxSteps := 4000000) only [go_sem]
     first | done | rfl | trace_state
  ·have hne : decide (([] : List ByteArray) = m) = false := by
    rw [decide_eq_false_iff_not]; rintro rfl; simp at hm
   have hc : ((0 : Int) != (m.length : Int)) = true := by simp; omega
   rcases hs with rfl | ⟨f, rfl⟩
   ·simp +decide -implicitDefEqProofs (maxSteps := 4000000) only [go_sem, Tryd.f56, hc, hne]
   ·simp +decide -implicitDefEqProofs (maxSteps := 4000000) only [go_sem, Tryd.f56, hc, hne]
 ·rcases txR_len h2 with ⟨_, ht, rfl⟩ | ⟨hm, g, rfl⟩
  ·have hne : decide (l = []) = false := by
    rw [decide_eq_false_iff_not]; rintro rfl; simp at hl
   have hc : ((l.length : Int) != 0) = true := bne_int_t (by omega)
   rcases ht with rfl | ⟨f, rfl⟩
   ·simp +decide -implicitDefEqProofs (maxSteps := 4000000) only [go_sem, Tryd.f56, hc, hne]
   ·simp +decide -implicitDefEqProofs (maxSteps := 4000000) only [go_sem, Tryd.f56, hc, hne]
  ·by_cases hlm : l.length = m.length
   ·have hc : ((l.length : Int) != (m.length : Int)) = false := bne_int_f (by omega)
    simp +decide -implicitDefEqProofs (maxSteps := 4000000) only [go_sem, Tryd.f56, hc]
    refine pwpC_loopU (A := { k : Nat // k ≤ l.length ∧ ∀ j, j < k → l[j]? = m[j]? }) [0, 1] (fun k => [(5, .t (.int .i64 k.1))]) (fun _ => []) (fun k => l.length - k.1) ⟨0, by omega, fun j h => absurd h (by omega)⟩ (by decide) (fun _ => by rfl) ?_ fun Q1 hQ1 ⟨k, hk, hall⟩ I1 hI1 => ?_
    ·simp +decide -implicitDefEqProofs (maxSteps := 4000000) only [go_sem]
    ·by_cases hlt : (k : Int) < l.length
     ·obtain ⟨x, hx⟩ : ∃ x, l[k]? = some x := ⟨_, List.getElem?_eq_getElem (by omega)⟩
      obtain ⟨y, hy⟩ : ∃ y, m[k]? = some y := ⟨_, List.getElem?_eq_getElem (by omega)⟩
      have dx := txs_at hx
      have dy := txs_at hy
      have hlt2 : (k : Int) < m.length := by omega
      have hk1 := Go.Pm.wS (k := k) (by omega)
      have hbn := beqS x y
      by_cases e : x = y
      ·rw [decide_eq_true e] at hbn
       simp +decide -implicitDefEqProofs (maxSteps := 4000000) only [go_sem, hlt, hlt2, dx, dy, hbn, Nat.mul_one]
       refine hI1 _ ⟨k + 1, by omega, fun j hj => ?_⟩ (by simp only; omega) ?_
       ·by_cases ej : j = k
        ·subst ej; rw [hx, hy, e]
        ·exact hall j (by omega)
       ·simp +decide -implicitDefEqProofs (maxSteps := 4000000) only [go_sem, hk1]
      ·rw [decide_eq_false e] at hbn
       have hne : decide (l = m) = false := by
        rw [decide_eq_false_iff_not]
        rintro rfl
        rw [hx] at hy
        exact e (Option.some.inj hy)
       simp +decide -implicitDefEqProofs (maxSteps := 4000000) only [go_sem, hlt, hlt2, dx, dy, hbn, Nat.mul_one]
       refine hQ1 _ _ ?_
       simp +decide -implicitDefEqProofs (maxSteps := 4000000) only [go_sem, hne]
     ·have hle : decide (l = m) = true := by
       rw [decide_eq_true_eq]
       apply List.ext_getElem?
       intro j
       by_cases hj : j < l.length
       ·exact hall j (by omega)
       ·rw [List.getElem?_eq_none (by omega), List.getElem?_eq_none (by omega)]
      simp +decide -implicitDefEqProofs (maxSteps := 4000000) only [go_sem, hlt]
      refine hQ1 _ _ ?_
      simp +decide -implicitDefEqProofs (maxSteps := 4000000) only [go_sem, hle]
   ·have hc : ((l.length : Int) != (m.length : Int)) = true := bne_int_t (by omega)
    have hne : decide (l = m) = false := by
     rw [decide_eq_false_iff_not]; rintro rfl; exact hlm rfl
    simp +decide -implicitDefEqProofs (maxSteps := 4000000) only [go_sem, Tryd.f56, hc, hne]
open Classical in
noncomputable def rSm (p q : List (List ByteArray)) : List TV → Option TV
 | [s, t] => if h : ∃ (l m : List ByteArray), txR s l ∧ txR t m ∧ l ∈ p then some (.bool (decide (Classical.choose h = Classical.choose (Classical.choose_spec h)))) else none
 | _ => none
open Classical in
theorem rSm_of {p q : List (List ByteArray)} {s t : TV} {l m : List ByteArray} (h1 : txR s l) (h2 : txR t m) (hl : l ∈ p) : rSm p q [s, t] = some (.bool (decide (l = m))) := by
 have h : ∃ (l m : List ByteArray), txR s l ∧ txR t m ∧ l ∈ p := ⟨l, m, h1, h2, hl⟩
 have hs := Classical.choose_spec (Classical.choose_spec h)
 have e1 := txR_inj hs.1 h1
 have e2 := txR_inj hs.2.1 h2
 show (if h : ∃ (l m : List ByteArray), txR s l ∧ txR t m ∧ l ∈ p then some (TV.bool (decide (Classical.choose h = Classical.choose (Classical.choose_spec h)))) else none) = _
 rw [dif_pos h]
 have : decide (Classical.choose h = Classical.choose (Classical.choose_spec h)) = decide (l = m) := decide_eq_decide.2 ⟨fun e => e1.symm.trans (e.trans e2), fun e => e1.trans (e.trans e2.symm)⟩
 rw [this]
theorem rSm_ok {p q : List (List ByteArray)} (hb : ∀ l ∈ p, l.length ≤ 140737488355328) : ∀ a r, rSm p q a = some r → PCalls Tryd.prog 56 a r := by
 intro a r e
 unfold rSm at e
 split at e
 ·split at e
  ·rename_i h
   cases e
   have hs := Classical.choose_spec (Classical.choose_spec h)
   exact rSameTexts_c hs.1 hs.2.1 (hb _ hs.2.2)
  ·cases e
 ·cases e
theorem pgR_len {s : TV} {p : List (List ByteArray)} (h : pgR s p) : (p.length = 0 ∧ (s = .nilSl ∨ ∃ f, s = .sl [] 0 f) ∧ p = []) ∨ (0 < p.length ∧ ∃ rs f, s = .sl rs p.length f ∧ rs.length = p.length ∧ ∀ (k : Nat) (r : List ByteArray) (t : TV), p[k]? = some r → rs[k]? = some t → txR t r) := by
 rcases h with ⟨rfl, rfl⟩ | ⟨rs, f, rfl, h1, h2⟩
 ·exact .inl ⟨rfl, .inl rfl, rfl⟩
 ·cases p with
  | nil =>
   have : rs = [] := List.eq_nil_of_length_eq_zero h1
   subst this
   exact .inl ⟨rfl, .inr ⟨f, rfl⟩, rfl⟩
  | cons x l => exact .inr ⟨Nat.succ_pos _, rs, f, rfl, h1, h2⟩
theorem rSamePages_c {s t : TV} {p q : List (List ByteArray)} (h1 : pgR s p) (h2 : pgR t q) (hb : p.length ≤ 140737488355328) (hb2 : ∀ l ∈ p, l.length ≤ 140737488355328) : PCalls Tryd.prog 16 [s, t] (.bool (decide (p = q))) := by
 refine pcalls_by Tryd.mixes (Spec.gdt_ok (Spec.one_ok (rSm_ok (p := p) (q := q) hb2) noSpec_ok)) (fn := Tryd.f16) Tryd.func16 rfl (by kernel_rfl) (by show 2 ≤ _; decide) ?_
 rcases pgR_len h1 with ⟨_, hs, rfl⟩ | ⟨hl, rs, f, rfl, hrl, hrs⟩
 ·rcases pgR_len h2 with ⟨_, ht, rfl⟩ | ⟨hm, rt, g, rfl, htl, hrt⟩
  ·rcases hs with rfl | ⟨f, rfl⟩
   all_goals rcases ht with rfl | ⟨g, rfl⟩
   all_goals
    simp +decide -implicitDefEqProofs (maxSteps := 4000000) only [go_sem, Tryd.f16]
    refine pwpC_loopU (A := Unit) [0, 1, 5] (fun _ => [(6, .t (.int .i64 0))]) (fun _ => []) (fun _ => 0) () (by decide) (fun _ => by rfl) ?_ fun Q1 hQ1 ⟨⟩ I1 hI1 => ?_
    ·simp +decide -implicitDefEqProofs (maxSteps := 4000000) only [go_sem]
    ·simp +decide -implicitDefEqProofs (maxSteps := 4000000) only [go_sem]
     refine hQ1 _ _ ?_
     simp +decide -implicitDefEqProofs (maxSteps := 4000000) only [go_sem]
     first | done | rfl | trace_state
  ·have hne : decide (([] : List (List ByteArray)) = q) = false := by
    rw [decide_eq_false_iff_not]; rintro rfl; simp at hm
   have hc : ((0 : Int) == (q.length : Int)) = false := by simp; omega
   rcases hs with rfl | ⟨f, rfl⟩
   all_goals
    simp +decide -implicitDefEqProofs (maxSteps := 4000000) only [go_sem, Tryd.f16, hc, hne]
    refine pwpC_loopU (A := Unit) [0, 1, 5] (fun _ => [(6, .t (.int .i64 0))]) (fun _ => []) (fun _ => 0) () (by decide) (fun _ => by rfl) ?_ fun Q1 hQ1 ⟨⟩ I1 hI1 => ?_
    ·simp +decide -implicitDefEqProofs (maxSteps := 4000000) only [go_sem]
    ·simp +decide -implicitDefEqProofs (maxSteps := 4000000) only [go_sem]
     refine hQ1 _ _ ?_
     simp +decide -implicitDefEqProofs (maxSteps := 4000000) only [go_sem]
     first | done | rfl | trace_state
 ·by_cases hlm : p.length = q.length
  rotate_left
  ·have hne : decide (p = q) = false := by
    rw [decide_eq_false_iff_not]; rintro rfl; exact hlm rfl
   have hc : ((p.length : Int) == (q.length : Int)) = false := by simpa using fun e => hlm (by omega)
   rcases pgR_len h2 with ⟨_, ht, rfl⟩ | ⟨hm, rt, g, rfl, htl, hrt⟩
   ·have hc : ((p.length : Int) == 0) = false := by simpa using fun e => hlm (by simp [e])
    rcases ht with rfl | ⟨g, rfl⟩
    all_goals
     simp +decide -implicitDefEqProofs (maxSteps := 4000000) only [go_sem, Tryd.f16, hc, hne]
     refine pwpC_loopU (A := Unit) [0, 1, 5] (fun _ => [(6, .t (.int .i64 0))]) (fun _ => []) (fun _ => 0) () (by decide) (fun _ => by rfl) ?_ fun Q1 hQ1 ⟨⟩ I1 hI1 => ?_
     ·simp +decide -implicitDefEqProofs (maxSteps := 4000000) only [go_sem]
     ·simp +decide -implicitDefEqProofs (maxSteps := 4000000) only [go_sem]
      refine hQ1 _ _ ?_
      simp +decide -implicitDefEqProofs (maxSteps := 4000000) only [go_sem]
      first | done | rfl | trace_state
   ·simp +decide -implicitDefEqProofs (maxSteps := 4000000) only [go_sem, Tryd.f16, hc, hne]
    refine pwpC_loopU (A := Unit) [0, 1, 5] (fun _ => [(6, .t (.int .i64 0))]) (fun _ => []) (fun _ => 0) () (by decide) (fun _ => by rfl) ?_ fun Q1 hQ1 ⟨⟩ I1 hI1 => ?_
    ·simp +decide -implicitDefEqProofs (maxSteps := 4000000) only [go_sem]
    ·simp +decide -implicitDefEqProofs (maxSteps := 4000000) only [go_sem]
     refine hQ1 _ _ ?_
     simp +decide -implicitDefEqProofs (maxSteps := 4000000) only [go_sem]
     first | done | rfl | trace_state
  ·obtain ⟨rt, g, rfl, htl, hrt⟩ : ∃ rs f, t = .sl rs q.length f ∧ rs.length = q.length ∧ ∀ (k : Nat) (r : List ByteArray) (t : TV), q[k]? = some r → rs[k]? = some t → txR t r := by
    rcases pgR_len h2 with ⟨h, _⟩ | ⟨_, h⟩
    ·omega
    ·exact h
   have hc : ((p.length : Int) == (q.length : Int)) = true := by simp; omega
   simp +decide -implicitDefEqProofs (maxSteps := 4000000) only [go_sem, Tryd.f16, hc]
   refine pwpC_loopU (A := { x : Nat × Bool // x.1 ≤ p.length ∧ (x.2 = true → ∀ j, j < x.1 → p[j]? = q[j]?) ∧ (x.2 = false → p ≠ q) }) [0, 1] (fun x => [(6, .t (.int .i64 x.1.1)), (5, .t (.bool x.1.2))]) (fun _ => []) (fun x => p.length - x.1.1) ⟨(0, true), by simp, fun _ j h => absurd h (by simp), fun h => by cases h⟩ (by decide) (fun _ => by rfl) ?_ fun Q1 hQ1 ⟨⟨k, b⟩, hk, hall, hno⟩ I1 hI1 => ?_
   ·simp +decide -implicitDefEqProofs (maxSteps := 4000000) only [go_sem]
   ·simp only at hk hall hno ⊢
    cases b with
    | false =>
     have hne : decide (p = q) = false := decide_eq_false (hno rfl)
     simp +decide -implicitDefEqProofs (maxSteps := 4000000) only [go_sem]
     refine hQ1 _ _ ?_
     simp +decide -implicitDefEqProofs (maxSteps := 4000000) only [go_sem, hne]
    | true =>
     by_cases hlt : (k : Int) < p.length
     ·obtain ⟨x, hx⟩ : ∃ x, p[k]? = some x := ⟨_, List.getElem?_eq_getElem (by omega)⟩
      obtain ⟨y, hy⟩ : ∃ y, q[k]? = some y := ⟨_, List.getElem?_eq_getElem (by omega)⟩
      obtain ⟨u, hu⟩ : ∃ u, rs[k]? = some u := ⟨_, List.getElem?_eq_getElem (by omega)⟩
      obtain ⟨v, hvv⟩ : ∃ v, rt[k]? = some v := ⟨_, List.getElem?_eq_getElem (by omega)⟩
      have du := tv_at hu
      have dv := tv_at hvv
      have hlt2 : (k : Int) < q.length := by omega
      have hk1 := Go.Pm.wS (k := k) (by omega)
      have hsm := rSm_of (p := p) (q := q) (hrs k x u hx hu) (hrt k y v hy hvv) (List.mem_of_getElem? hx)
      simp +decide -implicitDefEqProofs (maxSteps := 4000000) only [go_sem, hlt, hlt2, du, dv, hsm, Nat.mul_one]
      refine hI1 _ ⟨(k + 1, decide (x = y)), by simp only; omega, fun h j hj => ?_, fun h e => ?_⟩ (by simp only; omega) ?_
      ·simp only [decide_eq_true_eq] at h
       by_cases ej : j = k
       ·subst ej; rw [hx, hy, h]
       ·exact hall rfl j (by simp only at hj; omega)
      ·simp only [decide_eq_false_iff_not] at h
       subst e
       rw [hx] at hy
       exact h (Option.some.inj hy)
      ·simp +decide -implicitDefEqProofs (maxSteps := 4000000) only [go_sem, hk1]
     ·have hle : decide (p = q) = true := by
       rw [decide_eq_true_eq]
       apply List.ext_getElem?
       intro j
       by_cases hj : j < p.length
       ·exact hall rfl j (by omega)
       ·rw [List.getElem?_eq_none (by omega), List.getElem?_eq_none (by omega)]
      simp +decide -implicitDefEqProofs (maxSteps := 4000000) only [go_sem, hlt]
      refine hQ1 _ _ ?_
      simp +decide -implicitDefEqProofs (maxSteps := 4000000) only [go_sem, hle]
end Go.Proofs.YtdkboibnokipaaaDoor

namespace Go.Ow
open Go Go.RowKit Go.Pm
def rowT (r : List ByteArray) : List UInt8 := Lib.join (r.map (·.data.toList)) [32] ++ [10]
def textP (p : List (List ByteArray)) : List UInt8 := (p.map rowT).flatten
theorem textP_snoc {p : List (List ByteArray)} {k : Nat} {r : List ByteArray} (h : p[k]? = some r) : textP (p.take (k + 1)) = textP (p.take k) ++ rowT r := by
 unfold textP; rw [List.take_add_one, h]; simp
theorem join_len : ∀ (l : List (List UInt8)) (m : Nat), (∀ x ∈ l, x.length ≤ m) → (Lib.join l [32]).length ≤ l.length * (m + 1)
 | [], m, _ => by rw [Lib.join_nil]; simp
 | [x], m, h => by
  rw [Lib.join_one]
  have := h x List.mem_cons_self
  simp only [List.length_cons, List.length_nil]; omega
 | x :: y :: l, m, h => by
  have e : Lib.join (x :: y :: l) [32] = x ++ ([32] ++ Lib.join (y :: l) [32]) := by simp [Lib.join, List.intercalate]
  have h1 := h x List.mem_cons_self
  have ih := join_len (y :: l) m fun z hz => h z (List.mem_cons_of_mem _ hz)
  rw [e]
  simp only [List.length_append, List.length_cons, List.length_nil] at *
  have : (l.length + 1 + 1) * (m + 1) = (l.length + 1) * (m + 1) + (m + 1) := Nat.succ_mul _ _
  omega
theorem join_le {r : List ByteArray} (h : ∀ x ∈ r, x.size ≤ 5) (h5 : r.length ≤ 5) : (Lib.join (r.map (·.data.toList)) [32]).length ≤ 40 := by
 have := join_len (r.map (·.data.toList)) 5 (fun x hx => by
  obtain ⟨y, hy, rfl⟩ := List.mem_map.1 hx
  rw [bytes_len]; exact h y hy)
 rw [List.length_map] at this
 omega
theorem rowT_len {r : List ByteArray} (h : ∀ x ∈ r, x.size ≤ 5) (h5 : r.length ≤ 5) : (rowT r).length ≤ 41 := by
 unfold rowT
 have := join_le h h5
 rw [List.length_append]
 simp only [List.length_cons, List.length_nil]; omega
theorem textP_len {p : List (List ByteArray)} (h : validB p = true) : ∀ {k : Nat}, k ≤ p.length → (textP (p.take k)).length ≤ 41 * k
 | 0, _ => by simp [textP]
 | k + 1, hk => by
  obtain ⟨r, hr⟩ : ∃ r, p[k]? = some r := ⟨_, List.getElem?_eq_getElem (by omega)⟩
  have ih := textP_len h (k := k) (by omega)
  have hvr := valid_row h hr
  have := rowT_len (r := r) (fun x hx => (entB_size (hvr.2.2 x hx)).2) hvr.1.2
  rw [textP_snoc hr, List.length_append]; omega
theorem builder_kept {T e : TypeId} {B b : Nat} {bs : List Value} {w w' : World} (h : Lib.IsBuilderF T e B b bs w) (hb : Below w.heap.size w w') : Lib.IsBuilderF T e B b bs w' := by
 have key : ∀ {q : Value}, Lib.BuilderAtF T e B b q bs w → Lib.BuilderAtF T e B b q bs w' := by
  rintro q ⟨hB, v, hbk, hown, hne⟩
  refine ⟨hB, v, ?_, hown.kept (row := none) ⟨hb.os, hb.tape, hb.output, hb.size, fun k hk _ => hb.block k hk⟩ ?_, hne⟩
  ·rw [hb.block b (Array.getElem?_eq_some_iff.1 hbk).1]; exact hbk
  ·cases v.ownBlock with
   | none => exact .inl rfl
   | some x => exact .inr (by simp)
 rcases h with h | h
 ·exact .inl (key h)
 ·exact .inr (key h)
theorem ba_app (l m : List UInt8) : ((ByteArray.mk l.toArray) ++ (ByteArray.mk m.toArray)).data.toList = l ++ m := by
 rw [ByteArray.data_append]; simp
end Go.Ow
namespace Go.Proofs.YtdkboibnokipaaaDoor
open Go.RowKit Go.Pm Go.Ow Go.Shelf
set_option maxRecDepth 1000000
theorem Builder_WriteString_x (B b : Nat) (bs : List Value) (s : ByteArray) (w : World) (h : Lib.IsBuilderF 110 5 B b bs w) (hlen : bs.length + s.size ≤ 140737488355328) (hBw : B ≤ w.heap.size) : Calls Tryd.prog 60 #[.pointer (some ⟨b, 0, none⟩), .string s] w fun e w' => e = .returned (.tuple #[.int .i64 s.size, .nilIface]) ∧ (Lib.BuilderAtF 110 5 B b (.pointer (some ⟨b, 0, none⟩)) (bs ++ Lib.strCells s) w' ∧ Below B w w') := Any.Builder_WriteString_f (P := Tryd.prog) (ρ := Tryd.lays156_ren) { Tryd.lays156 with } Tryd.Builder_Extra_156 B b bs s w h hlen hBw
theorem Builder_String_x (B b : Nat) (l : List UInt8) (w : World) (h : Lib.IsBuilderF 110 5 B b (Lib.byteCells l) w) (hBw : B ≤ w.heap.size) : Calls Tryd.prog 62 #[.pointer (some ⟨b, 0, none⟩)] w fun e w' => e = .returned (.string ⟨l.toArray⟩) ∧ (Lib.IsBuilderF 110 5 B b (Lib.byteCells l) w' ∧ Below B w w') := Any.Builder_String_any_f (P := Tryd.prog) (ρ := Tryd.lays156_ren) { Tryd.lays156 with } Tryd.Builder_Extra_156 B b l w h hBw
theorem strings_Join_x (bk o c : Nat) (xs : List ByteArray) (w : World) (hcells : ∀ (j : Nat) x, xs[j]? = some x → w.cell? ⟨bk, o + j, none⟩ = some (.string x)) (hbk : bk < w.heap.size) (hN : xs.length ≤ 140737488355328) (hcap : xs.length ≤ c) (hlen : (Lib.join (xs.map (·.data.toList)) [32]).length ≤ 140737488355328) : Calls Tryd.prog 61 #[.slice (some ⟨bk, o, none⟩) xs.length c, .string ⟨#[32]⟩] w fun e w' => e = .returned (.string ⟨(Lib.join (xs.map (·.data.toList)) [32]).toArray⟩) ∧ Below w.heap.size w w' := Any.strings_Join (P := Tryd.prog) (ρ := Tryd.lays156_ren) Tryd.lays156 Tryd.Builder_Extra_156 bk o c xs ⟨#[32]⟩ w hcells hbk hN hcap hlen
set_option maxHeartbeats 1000000 in
theorem wPrint_c {s : TV} {p : List (List ByteArray)} (hs : pgR s p) (hv : validB p = true) : PCalls Tryd.prog 22 [s] (.tup [.str ⟨(textP p).toArray⟩, .int .i64 0]) := by
 have hC := wCheckPage_c hs
 rw [hv, if_pos rfl] at hC
 obtain ⟨hpl, _⟩ := valid_len hv
 obtain ⟨rs, f, rfl, hrl, hrs⟩ : ∃ rs f, s = .sl rs p.length f ∧ rs.length = p.length ∧ ∀ (k : Nat) (r : List ByteArray) (t : TV), p[k]? = some r → rs[k]? = some t → txR t r := by
  rcases hs with ⟨_, rfl⟩ | h
  ·simp at hpl
  ·exact h
 refine ⟨⟨_, Tryd.func22, rfl, by kernel_rfl⟩, fun w F φ us H hr => ?_⟩
 have hr' : RepL F [.sl rs p.length f] us := ⟨by simpa using hr.1, fun i c' u hc hu => hr.2 i (.t c') u (by rw [List.getElem?_map, hc]; rfl) hu⟩
 obtain ⟨u, rfl, hu⟩ := repl1 hr'
 have cC := hC.2 w F φ [u] H hr
 have hag := H.agree
 have spot : ∀ {a : Addr} {v : Value}, w.cell? a = some v → ∃ b o, a = ⟨b, o, none⟩ := by
  intro a v h
  obtain ⟨b, o, sp⟩ := a
  cases sp with
  | none => exact ⟨b, o, rfl⟩
  | some k =>
   exfalso
   unfold World.cell? at h
   split at h
   ·simp at h
   ·cases h
 obtain ⟨bk, o, cap, rfl, hrow⟩ : ∃ bk o cap, u = .slice (some ⟨bk, o, none⟩) p.length cap ∧ ∀ (k : Nat) (r : List ByteArray), p[k]? = some r → ∃ bk' o' cap', w.cell? ⟨bk, o + k, none⟩ = some (.slice (some ⟨bk', o', none⟩) r.length cap') ∧ bk' < w.heap.size ∧ r.length ≤ cap' ∧ ∀ (j : Nat) x, r[j]? = some x → w.cell? ⟨bk', o' + j, none⟩ = some (.string x) := by
  clear cC hr hr'
  cases hu with
  | sl cs n full a cap vs hl hF hrr h1' h2 h3 =>
   have hcell : ∀ (k : Nat) v, vs[k]? = some v → w.cell? (a.add k) = some v := fun k v hv => look_cell (hag _ _ (hF k v hv).1) (hF k v hv).2
   obtain ⟨v0, hv0⟩ : ∃ v, vs[0]? = some v := ⟨_, List.getElem?_eq_getElem (by omega)⟩
   have hc0 := hcell 0 v0 hv0
   rw [add_zero] at hc0
   obtain ⟨bk, o, rfl⟩ := spot hc0
   refine ⟨bk, o, cap, rfl, fun k r hk => ?_⟩
   have hkl := (List.getElem?_eq_some_iff.1 hk).1
   obtain ⟨t, ht⟩ : ∃ t, rs[k]? = some t := ⟨_, List.getElem?_eq_getElem (by omega)⟩
   obtain ⟨v, hv⟩ : ∃ v, vs[k]? = some v := ⟨_, List.getElem?_eq_getElem (by omega)⟩
   have hc := hcell k v hv
   rw [add_plain] at hc
   have hvr := valid_row ‹_› hk
   have hx := hrs k r t hk ht
   obtain ⟨g, rfl⟩ : ∃ g, t = .sl (r.map .str) r.length g := by
    rcases hx with ⟨_, rfl⟩ | ⟨g, e⟩
    ·have := hvr.1.1; simp at this
    ·exact ⟨g, e⟩
   have hrt := hrr k _ v ht hv
   cases hrt with
   | sl cs' n' full' a' cap' vs' hl' hF' hrr' h1'' h2' h3' =>
    have hcell' : ∀ (j : Nat) x, r[j]? = some x → w.cell? (a'.add j) = some (.string x) := by
     intro j x hx
     have hj : j < vs'.length := by rw [hl', List.length_map]; exact (List.getElem?_eq_some_iff.1 hx).1
     have hu := List.getElem?_eq_getElem hj
     have hc := hrr' j (.str x) vs'[j] (by rw [List.getElem?_map, hx]; rfl) hu
     have := look_cell (hag _ _ (hF' j _ hu).1) (hF' j _ hu).2
     rw [str_inv hc] at this
     exact this
    obtain ⟨x0, hx0⟩ : ∃ x, r[0]? = some x := ⟨_, List.getElem?_eq_getElem (by have := hvr.1.1; omega)⟩
    have hc0 := hcell' 0 x0 hx0
    rw [add_zero] at hc0
    obtain ⟨bk', o', rfl⟩ := spot hc0
    exact ⟨bk', o', cap', hc, World.block_lt_of_cell? _ _ hc0, h1'', fun j x hx => by have := hcell' j x hx; rwa [add_plain] at this⟩
 go_enter Tryd.func22, Tryd.ntmps22
 go_wp2_with (go_at_call 17; refine cC.mono ?_)
 rintro e w1 ⟨u1, F1, φ1, rfl, H1, hu1⟩
 have hu1 : u1 = .int .i64 0 := by cases hu1; rfl
 subst hu1
 go_wp2
 go_loopw [15] (fun iv wr => ∃ k : Nat, iv = .int .i64 k ∧ k ≤ p.length ∧ Lib.IsBuilderF 110 5 w1.heap.size w1.heap.size (Lib.byteCells (textP (p.take k))) wr ∧ Below w1.heap.size w1 wr) (fun iv _ => p.length - (Lib.intOf iv).toNat)
 case atStart =>
  refine ⟨0, rfl, Nat.zero_le _, ?_, (Below.refl _ w1).alloc (Nat.le_refl _) _⟩
  have := Lib.fresh_isBuilder 110 5 w1
  exact Lib.IsBuilderF.of this
 case round =>
  obtain ⟨k, rfl, hk, hI, hbw⟩ := hrel
  have hb1 : Below w.heap.size w w1 := ⟨H1.bel.os, H1.bel.tape, H1.bel.output, H1.bel.size, fun j hj => H1.bel.block j hj (fun ho => by obtain ⟨id, hl, _⟩ := ho; cases hl)⟩
  have hcell : ∀ {a : Addr} {v : Value}, a.block < w.heap.size → w.cell? a = some v → wr.cell? a = some v := by
   intro a v hl h
   have e1 : wr.heap[a.block]? = w.heap[a.block]? := by rw [hbw.block _ (Nat.lt_of_lt_of_le hl hb1.size), hb1.block _ hl]
   unfold World.cell? at h ⊢
   rw [e1]; exact h
  by_cases hlt : (k : Int) < p.length
  ·obtain ⟨r, hr0⟩ : ∃ r, p[k]? = some r := ⟨_, List.getElem?_eq_getElem (by omega)⟩
   obtain ⟨bk', o', cap', c1, c2, c3, c4⟩ := hrow k r hr0
   have cr := hcell (World.block_lt_of_cell? _ _ c1) c1
   have hw2 : w1.heap.size ≤ wr.heap.size := hbw.size
   have hb2 := hb1.size
   have hvr := valid_row hv hr0
   have hsz : ∀ x ∈ r, x.size ≤ 5 := fun x hx => (entB_size (hvr.2.2 x hx)).2
   have hjl : (Lib.join (r.map (·.data.toList)) [32]).length ≤ 40 := join_le hsz hvr.1.2
   have cJ := strings_Join_x bk' o' cap' r wr (fun j x hx => hcell c2 (c4 j x hx)) (by omega) (by omega) c3 (by omega)
   clear hvr hsz hjl
   go_wp2_with (go_at_call 61; refine cJ.mono ?_)
   rintro e w2 ⟨rfl, hbj⟩
   have hrow5 : textP (p.take (k + 1)) = textP (p.take k) ++ rowT r := textP_snoc hr0
   have hjl : (Lib.join (r.map (·.data.toList)) [32]).length ≤ 40 := by
    have hvr := valid_row hv hr0
    exact join_le (fun x hx => (entB_size (hvr.2.2 x hx)).2) hvr.1.2
   have hbj' : Below wr.heap.size wr w2 := hbj
   have hI2 : Lib.IsBuilderF 110 5 w1.heap.size w1.heap.size (Lib.byteCells (textP (p.take k))) w2 := builder_kept hI hbj'
   have hsz2 : w1.heap.size ≤ w2.heap.size := Nat.le_trans hw2 hbj'.size
   have htk := textP_len hv hk
   have happ := ba_app (Lib.join (r.map (·.data.toList)) [32]) [10]
   have hszz : ((ByteArray.mk (Lib.join (r.map (·.data.toList)) [32]).toArray) ++ (ByteArray.mk #[10])).size ≤ 41 := by
    rw [← bytes_len]
    have : ((ByteArray.mk (Lib.join (r.map (·.data.toList)) [32]).toArray) ++ (ByteArray.mk #[10])).data.toList = Lib.join (r.map (·.data.toList)) [32] ++ [10] := happ
    rw [this, List.length_append]
    simp only [List.length_cons, List.length_nil]; omega
   have cW := Builder_WriteString_x w1.heap.size w1.heap.size _ ((ByteArray.mk (Lib.join (r.map (·.data.toList)) [32]).toArray) ++ (ByteArray.mk #[10])) w2 hI2 (by rw [Lib.byteCells_length]; omega) hsz2
   go_wp2_with (go_at_call 60; refine cW.mono ?_)
   rintro e w3 ⟨rfl, h1, hbs⟩
   go_wp2
   go_roundw
   case rel =>
    refine ⟨k + 1, ?_, by omega, ?_, ?_⟩
    ·rfl
    ·rw [hrow5, Lib.byteCells_append]
     have : Lib.byteCells (rowT r) = Lib.strCells ((ByteArray.mk (Lib.join (r.map (·.data.toList)) [32]).toArray) ++ (ByteArray.mk #[10])) := by
      rw [Lib.strCells_eq]; exact congrArg Lib.byteCells happ.symm
     rw [this]
     exact .inr h1
    ·exact hbw.trans ((hbj'.mono hw2).trans hbs)
   case measure =>
    simp only [Lib.intOf]
    omega
  ·have hke : k = p.length := by omega
   subst hke
   have cS := Builder_String_x w1.heap.size w1.heap.size _ wr hI hbw.size
   go_wp2_with (go_at_call 62; refine cS.mono ?_)
   intro e w2 he h1 hbs
   subst he
   go_wp2
   go_ret2
   have hb3 : Below w1.heap.size w1 w2 := hbw.trans hbs
   refine ⟨_, F1, φ1, rfl, H1.grow (Fz.le_refl _) (fun a v hv => ?_) (fun a v g1 g2 => by rw [g1] at g2; cases g2) hb3, ?_⟩
   ·have := H1.agree a v hv
    rw [look_same (hb3.block _ (cell_lt this))]; exact this
   ·rw [List.take_length] at *
    refine .tup [_, _] [.string ⟨(textP p).toArray⟩, .int .i64 0] rfl fun i c u hc hu => ?_
    match i with
    | 0 => cases hc; cases hu; exact .str _
    | 1 => cases hc; cases hu; exact .int _ _
    | (i + 2) => cases hc
end Go.Proofs.YtdkboibnokipaaaDoor

namespace Go.Ow
open Go Go.RowKit Go.Pm
def wetP : List (List ByteArray) := [[⟨#[49, 50]⟩, ⟨#[63, 53]⟩, ⟨#[52, 55]⟩], [⟨#[56]⟩, ⟨#[50, 48]⟩, ⟨#[50, 63]⟩], [⟨#[50, 63]⟩, ⟨#[53, 53]⟩, ⟨#[55, 53]⟩]]
def openP : List (List ByteArray) := [[⟨#[49, 63]⟩, ⟨#[52]⟩, ⟨#[49, 63]⟩], [⟨#[50]⟩, ⟨#[51]⟩, ⟨#[53]⟩], [⟨#[49, 63]⟩, ⟨#[55]⟩, ⟨#[50, 63]⟩]]
def dryP : List (List ByteArray) := [[⟨#[49, 50]⟩, ⟨#[51, 53]⟩, ⟨#[52, 55]⟩], [⟨#[56]⟩, ⟨#[50, 48]⟩, ⟨#[50, 56]⟩], [⟨#[50, 48]⟩, ⟨#[53, 53]⟩, ⟨#[55, 53]⟩]]
def wetS : ByteArray := ⟨#[49, 50, 32, 63, 53, 32, 52, 55, 10, 56, 32, 50, 48, 32, 50, 63, 10, 50, 63, 32, 53, 53, 32, 55, 53, 10]⟩
def litT (p : List (List ByteArray)) : TV := .sl (p.map fun r => .sl (r.map .str) r.length true) p.length true
theorem litT_R (p : List (List ByteArray)) : pgR (litT p) p := .inr ⟨_, true, rfl, List.length_map _, fun k r t hr ht => by
 rw [List.getElem?_map, hr] at ht
 cases ht
 exact .inr ⟨true, rfl⟩⟩
theorem wet_valid : validB wetP = true := by decide
theorem open_valid : validB openP = true := by decide
theorem wet_read : readG wetP = [[3, 8, 0]] := by decide +kernel
theorem open_read : readG openP = [[1, 5, 3, 0], [2, 6, 4, 1], [3, 7, 5, 2], [4, 8, 6, 3], [5, 9, 7, 4]] := by decide +kernel
theorem lit_ne {p q : List (List ByteArray)} (h : p ≠ q) : litT p ≠ litT q := fun e => h (pgR_inj (e ▸ litT_R p) (litT_R q))
def bookL : List WRec := [⟨1, 10, 101, ⟨#[98, 105, 114, 100]⟩, 0⟩, ⟨1, 20, 102, ⟨#[115, 105, 115, 115, 111, 110]⟩, 0⟩, ⟨2, 300, 101, ⟨#[114, 97, 109, 115, 100, 101, 110]⟩, 0⟩, ⟨3, 400, 101, ⟨#[]⟩, 205⟩, ⟨2, 500, 205, ⟨#[100, 111, 108, 108, 111, 110, 100]⟩, 0⟩, ⟨4, 600, 102, ⟨#[]⟩, 0⟩]
def bookT : TV := .sl (recL bookL) 6 true
def marksC : TV := .sl [.str ⟨#[114, 97, 109, 115, 100, 101, 110]⟩, .str ⟨#[100, 111, 108, 108, 111, 110, 100]⟩] 2 true
def claimC : WCl := ⟨205, 550, ⟨#[98, 105, 114, 100]⟩, 10, [⟨#[114, 97, 109, 115, 100, 101, 110]⟩, ⟨#[100, 111, 108, 108, 111, 110, 100]⟩]⟩
def lateC : WCl := ⟨205, 450, ⟨#[98, 105, 114, 100]⟩, 10, [⟨#[114, 97, 109, 115, 100, 101, 110]⟩, ⟨#[100, 111, 108, 108, 111, 110, 100]⟩]⟩
theorem marksC_R : txR marksC [⟨#[114, 97, 109, 115, 100, 101, 110]⟩, ⟨#[100, 111, 108, 108, 111, 110, 100]⟩] := .inr ⟨true, rfl⟩
end Go.Ow
namespace Go.Proofs.YtdkboibnokipaaaDoor
open Go.RowKit Go.Pm Go.Ow
theorem wet_rest : restT wetP = .tup [pgV dryP, .int .i64 1, .int .i64 0] := by
 have h : restP wetP = dryP := by decide +kernel
 unfold restT
 rw [wet_read, if_neg (by simp), h]; rfl
theorem open_rest : restT openP = .tup [pgV openP, .int .i64 5, .int .i64 0] := by
 have h : restP openP = openP := by decide +kernel
 unfold restT
 rw [open_read, if_neg (by simp), h]; rfl
theorem open_ask : askT openP = .tup [.agg [.int .i64 0, .int .i64 0, .int .i64 1], .int .i64 1, .int .i64 0] := by
 have h : askTo (readG openP) (placesP openP) (placesP openP).length = ((0, 0, 1), 1) := by decide +kernel
 unfold askT
 rw [h, open_read]; rfl
theorem wet_text : (⟨(textP wetP).toArray⟩ : ByteArray) = wetS := by decide +kernel
theorem wet_suf : Lib.hasSuffix wetS.data.toList [10] = true := by decide +kernel
theorem wet_lines : linesP wetS = wetP := by decide +kernel
theorem oWet_c : PCalls Tryd.prog 44 [] (litT wetP) := by
 refine pcalls_by Tryd.mixes noSpec_ok (fn := Tryd.f44) Tryd.func44 rfl (by kernel_rfl) (by show 0 ≤ _; decide) ?_
 simp +decide -implicitDefEqProofs (maxSteps := 4000000) only [go_sem, Tryd.f44, litT, wetP, List.map_cons, List.map_nil, List.length_cons, List.length_nil]
theorem oOpen_c : PCalls Tryd.prog 59 [] (litT openP) := by
 refine pcalls_by Tryd.mixes noSpec_ok (fn := Tryd.f59) Tryd.func59 rfl (by kernel_rfl) (by show 0 ≤ _; decide) ?_
 simp +decide -implicitDefEqProofs (maxSteps := 4000000) only [go_sem, Tryd.f59, litT, openP, List.map_cons, List.map_nil, List.length_cons, List.length_nil]
theorem oBook_c : PCalls Tryd.prog 45 [] bookT := by
 refine pcalls_by Tryd.mixes noSpec_ok (fn := Tryd.f45) Tryd.func45 rfl (by kernel_rfl) (by show 0 ≤ _; decide) ?_
 simp +decide -implicitDefEqProofs (maxSteps := 4000000) only [go_sem, Tryd.f45, bookT, bookL, recL, recT, List.flatMap_cons, List.flatMap_nil]
theorem oClaim_c : PCalls Tryd.prog 46 [] (clT claimC marksC) := by
 refine pcalls_by Tryd.mixes noSpec_ok (fn := Tryd.f46) Tryd.func46 rfl (by kernel_rfl) (by show 0 ≤ _; decide) ?_
 simp +decide -implicitDefEqProofs (maxSteps := 4000000) only [go_sem, Tryd.f46, clT, claimC, marksC]
theorem bookT_R : bkT bookT bookL := .inr ⟨true, rfl⟩
theorem t_205 : traceP bookL 205 450 = (0, 0) := by decide +kernel
theorem t_101 : traceP bookL 101 450 = (0, 4) := by decide +kernel
theorem j_claim : judgeP bookL claimC = ((0, 0), 0) := by decide +kernel
theorem j_late : judgeP bookL lateC = ((4, 1), 0) := by decide +kernel
theorem or_ok {P : Program} {f : FuncId} {g h : List TV → Option TV} (hg : ∀ a r, g a = some r → PCalls P f a r) (hh : ∀ a r, h a = some r → PCalls P f a r) : ∀ a r, firstO (g a) (h a) = some r → PCalls P f a r := by
 intro a r e
 unfold firstO at e
 split at e
 ·rename_i x hx; cases e; exact hg _ _ hx
 ·exact hh _ _ e
def dryL : TV := .sl [.sl [.str ⟨#[49, 50]⟩, .str ⟨#[51, 53]⟩, .str ⟨#[52, 55]⟩] 3 true, .sl [.str ⟨#[56]⟩, .str ⟨#[50, 48]⟩, .str ⟨#[50, 56]⟩] 3 true, .sl [.str ⟨#[50, 48]⟩, .str ⟨#[53, 53]⟩, .str ⟨#[55, 53]⟩] 3 true] 3 true
theorem dryL_R : pgR dryL dryP := litT_R dryP
theorem pgV_ne {p q : List (List ByteArray)} (h : p ≠ q) : pgV p ≠ pgV q := fun e => h (pgR_inj (e ▸ pgV_R p) (pgV_R q))
noncomputable def spWo1 : Pm.Spec := (((((((((noSpec.one 44 (oneP [] (litT wetP))).one 59 (oneP [] (litT openP))).one 45 (oneP [] bookT)).one 46 (oneP [] (clT claimC marksC))).one 14 (fun a => firstO (oneP [litT wetP] (.tup [pgV dryP, .int .i64 1, .int .i64 0]) a) (oneP [litT openP] (.tup [pgV openP, .int .i64 5, .int .i64 0]) a))).one 19 (oneP [litT openP] (.tup [.agg [.int .i64 0, .int .i64 0, .int .i64 1], .int .i64 1, .int .i64 0]))).one 22 (oneP [litT wetP] (.tup [.str wetS, .int .i64 0]))).one 24 (oneP [.str wetS] (.tup [pgV wetP, .int .i64 0]))).one 26 (fun a => firstO (oneP [bookT, .int .i64 205, .int .i64 450] (.tup [.int .i64 0, .int .i64 0]) a) (oneP [bookT, .int .i64 101, .int .i64 450] (.tup [.int .i64 0, .int .i64 4]) a)))
noncomputable def spWo : Pm.Spec := ((spWo1.one 30 (fun a => firstO (oneP [bookT, clT claimC marksC] (.tup [.agg [.int .i64 0, .int .i64 0], .int .i64 0]) a) (oneP [bookT, clT lateC marksC] (.tup [.agg [.int .i64 4, .int .i64 1], .int .i64 0]) a))).one 16 (fun a => firstO (oneP [pgV dryP, dryL] (.bool true) a) (firstO (oneP [pgV openP, litT openP] (.bool true) a) (oneP [pgV wetP, litT wetP] (.bool true) a)))).gdt
theorem same_c {s t : TV} {p : List (List ByteArray)} (h1 : pgR s p) (h2 : pgR t p) (hb : p.length ≤ 5) (hb2 : ∀ l ∈ p, l.length ≤ 5) : PCalls Tryd.prog 16 [s, t] (.bool true) := by
 have := rSamePages_c h1 h2 (by omega) fun l hl => by have := hb2 l hl; omega
 rw [decide_eq_true rfl] at this
 exact this
theorem restore_of {s R : TV} {p : List (List ByteArray)} (hs : pgR s p) (hv : validB p = true) (h : restT p = R) : PCalls Tryd.prog 14 [s] R := h ▸ wRestore_c hs hv
theorem open_places : placesP openP = [(0, 0, 1), (0, 2, 1), (2, 0, 1), (2, 2, 1)] := by decide +kernel
theorem ask_open : PCalls Tryd.prog 19 [litT openP] (.tup [.agg [.int .i64 0, .int .i64 0, .int .i64 1], .int .i64 1, .int .i64 0]) := by
 have := wAsk4_c (litT_R openP) open_valid open_places (by decide) (by decide) (by decide) (by decide) (by decide) (by decide)
 rw [open_ask] at this
 exact this
theorem print_of {s : TV} {t : ByteArray} {p : List (List ByteArray)} (hs : pgR s p) (hv : validB p = true) (h : (⟨(textP p).toArray⟩ : ByteArray) = t) : PCalls Tryd.prog 22 [s] (.tup [.str t, .int .i64 0]) := h ▸ wPrint_c hs hv
theorem parse_of {s : ByteArray} {p : List (List ByteArray)} (h1 : s.size ≤ 65536) (h2 : Lib.hasSuffix s.data.toList [10] = true) (h : linesP s = p) (h3 : p.length ≤ 5 ∧ validB p = true) : PCalls Tryd.prog 24 [.str s] (.tup [pgV p, .int .i64 0]) := by
 have := wParse_c s h1 h2
 rw [h, if_pos h3] at this
 exact this
theorem trace_of {s : TV} {l : List WRec} (hs : bkT s l) (hL : l.length ≤ 40) {n d a b : Int} (h : traceP l n d = (a, b)) : PCalls Tryd.prog 26 [s, .int .i64 n, .int .i64 d] (.tup [.int .i64 a, .int .i64 b]) := by
 have := wTrace_c hs (by omega) n d
 rw [h] at this
 exact this
theorem judge_of {s m : TV} {l : List WRec} {c : WCl} (hs : bkT s l) (hL : l.length ≤ 40) (hm : txR m c.marks) (hM : c.marks.length ≤ 40) {a b e : Int} (h : judgeP l c = ((a, b), e)) : PCalls Tryd.prog 30 [s, clT c m] (.tup [.agg [.int .i64 a, .int .i64 b], .int .i64 e]) := by
 have := wJudge_c hs (by omega) hm (by omega)
 rw [h] at this
 exact this
theorem spWo_ok : SpecOk Tryd.prog spWo := by
 unfold spWo spWo1
 refine Spec.gdt_ok (Spec.one_ok (or_ok (oneP_ok ?_) (or_ok (oneP_ok ?_) (oneP_ok ?_))) (Spec.one_ok (or_ok (oneP_ok ?_) (oneP_ok ?_)) (Spec.one_ok (or_ok (oneP_ok ?_) (oneP_ok ?_)) (Spec.one_ok (oneP_ok ?_) (Spec.one_ok (oneP_ok ?_) (Spec.one_ok (oneP_ok ?_) (Spec.one_ok (or_ok (oneP_ok ?_) (oneP_ok ?_)) (Spec.one_ok (oneP_ok oClaim_c) (Spec.one_ok (oneP_ok oBook_c) (Spec.one_ok (oneP_ok oOpen_c) (Spec.one_ok (oneP_ok oWet_c) noSpec_ok)))))))))))
 ·exact same_c (pgV_R dryP) dryL_R (by decide) (by decide)
 ·exact same_c (pgV_R openP) (litT_R openP) (by decide) (by decide)
 ·exact same_c (pgV_R wetP) (litT_R wetP) (by decide) (by decide)
 ·exact judge_of bookT_R (by decide) marksC_R (by decide) j_claim
 ·exact judge_of bookT_R (by decide) marksC_R (by decide) j_late
 ·exact trace_of bookT_R (by decide) t_205
 ·exact trace_of bookT_R (by decide) t_101
 ·exact parse_of (by decide) wet_suf wet_lines (by decide)
 ·exact print_of (litT_R wetP) wet_valid wet_text
 ·exact ask_open
 ·exact restore_of (litT_R wetP) wet_valid wet_rest
 ·exact restore_of (litT_R openP) open_valid open_rest
theorem oWorks_c : PCalls Tryd.prog 21 [] (.bool true) := by
 have n1 : ¬ litT openP = litT wetP := lit_ne (by decide)
 have n2 : ¬ pgV openP = pgV dryP := pgV_ne (by decide)
 have n3 : ¬ pgV wetP = pgV dryP := pgV_ne (by decide)
 have n4 : ¬ pgV wetP = pgV openP := pgV_ne (by decide)
 have e1 : clT claimC marksC = .agg [.int .i64 205, .int .i64 550, .str ⟨#[98, 105, 114, 100]⟩, .int .i64 10, marksC] := rfl
 have e2 : clT lateC marksC = .agg [.int .i64 205, .int .i64 450, .str ⟨#[98, 105, 114, 100]⟩, .int .i64 10, marksC] := rfl
 have hw : (wetS.toList == (⟨#[49, 50, 32, 63, 53, 32, 52, 55, 10, 56, 32, 50, 48, 32, 50, 63, 10, 50, 63, 32, 53, 53, 32, 55, 53, 10]⟩ : ByteArray).toList) = true := (beqS _ _).trans (decide_eq_true rfl)
 refine pcalls_by Tryd.mixes spWo_ok (fn := Tryd.f21) Tryd.func21 rfl (by kernel_rfl) (by show 0 ≤ _; decide) ?_
 simp +decide -implicitDefEqProofs (maxSteps := 4000000) only [go_sem, Tryd.f21, spWo, spWo1, n1, n2, n3, n4, e1, e2, dryL, hw]
end Go.Proofs.YtdkboibnokipaaaDoor

namespace Go.Ow
open Go Go.RowKit Go.Pm
def cands (p : List (List ByteArray)) : List Pl → List (List Int)
 | [] => [[]]
 | a :: L => (List.range 10).flatMap fun (d : Nat) => if d = 0 ∧ firstB p a = true then [] else (cands p L).map fun g => (d : Int) :: g
def asgD : List Pl → List Int → Dg
 | a :: L, d :: g => updD (asgD L g) a d
 | _, _ => fun _ => none
def agE (p : List (List ByteArray)) (D : Dg) : Bool := (List.range p.length).all (rowB D p) && colsB D p
theorem asgD_out {a : Pl} : ∀ {L : List Pl} {g : List Int}, a ∉ L → asgD L g a = none
 | [], g, _ => by cases g <;> rfl
 | b :: L, [], _ => rfl
 | b :: L, d :: g, h => by
  show updD (asgD L g) b d a = none
  unfold updD
  rw [if_neg (fun e : a = b => h (e ▸ List.mem_cons_self))]
  exact asgD_out fun hm => h (List.mem_cons_of_mem _ hm)
theorem asgD_in {a : Pl} : ∀ {L : List Pl} {g : List Int}, g.length = L.length → a ∈ L → ∃ d, asgD L g a = some d ∧ d ∈ g
 | [], g, _, h => by cases h
 | b :: L, [], h, _ => by cases h
 | b :: L, d :: g, hl, h => by
  show ∃ e, updD (asgD L g) b d a = some e ∧ e ∈ d :: g
  unfold updD
  by_cases e : a = b
  ·exact ⟨d, if_pos e, List.mem_cons_self⟩
  ·rw [if_neg e]
   rcases List.mem_cons.1 h with h | h
   ·exact absurd h e
   ·obtain ⟨x, h1, h2⟩ := asgD_in (L := L) (g := g) (by simpa using hl) h
    exact ⟨x, h1, List.mem_cons_of_mem _ h2⟩
theorem digs_asg : ∀ {L : List Pl} {g : List Int}, L.Nodup → g.length = L.length → digsL L (asgD L g) = g
 | [], [], _, _ => rfl
 | [], _ :: _, _, h => by cases h
 | _ :: _, [], _, h => by cases h
 | b :: L, d :: g, hn, hl => by
  have hn' := List.nodup_cons.1 hn
  have ih := digs_asg (L := L) (g := g) hn'.2 (by simpa using hl)
  unfold digsL at ih ⊢
  rw [List.map_cons]
  have e1 : asgD (b :: L) (d :: g) b = some d := by show updD (asgD L g) b d b = _; unfold updD; rw [if_pos rfl]
  have e2 : (L.map fun a => ((asgD (b :: L) (d :: g)) a).getD 0) = L.map fun a => (asgD L g a).getD 0 := List.map_congr_left fun x hx => by
   show (updD (asgD L g) b d x).getD 0 = _
   unfold updD
   rw [if_neg (fun e : x = b => hn'.1 (e ▸ hx))]
  rw [e1, e2, ih]; rfl
theorem mem_cands {p : List (List ByteArray)} : ∀ {L : List Pl} {g : List Int}, g ∈ cands p L ↔ g.length = L.length ∧ ∀ (j : Nat) (a : Pl) (d : Int), L[j]? = some a → g[j]? = some d → (0 ≤ d ∧ d ≤ 9) ∧ (firstB p a = true → d ≠ 0)
 | [], g => by
  unfold cands
  rw [List.mem_singleton]
  constructor
  ·rintro rfl
   exact ⟨rfl, fun j a d h => by simp at h⟩
  ·rintro ⟨h, _⟩
   exact List.length_eq_zero_iff.1 h
 | b :: L, g => by
  unfold cands
  rw [List.mem_flatMap]
  constructor
  ·rintro ⟨d, hd, hg⟩
   rw [List.mem_range] at hd
   split at hg
   ·cases hg
   ·rename_i hc
    obtain ⟨g', hg', rfl⟩ := List.mem_map.1 hg
    obtain ⟨h1, h2⟩ := mem_cands.1 hg'
    refine ⟨by rw [List.length_cons, List.length_cons, h1], fun j a e ha he => ?_⟩
    cases j with
    | zero =>
     cases ha; cases he
     exact ⟨by omega, fun hf h0 => hc ⟨by omega, hf⟩⟩
    | succ j => exact h2 j a e ha he
  ·rintro ⟨h1, h2⟩
   cases g with
   | nil => cases h1
   | cons d g =>
    have h0 := h2 0 b d rfl rfl
    refine ⟨d.toNat, List.mem_range.2 (by omega), ?_⟩
    rw [if_neg fun e => h0.2 e.2 (by omega)]
    refine List.mem_map.2 ⟨g, mem_cands.2 ⟨by simpa using h1, fun j a e ha he => h2 (j + 1) a e ha he⟩, ?_⟩
    rw [show ((d.toNat : Nat) : Int) = d by omega]
theorem nodup_flat {α β : Type} {f : α → List β} : ∀ {l : List α}, l.Nodup → (∀ a ∈ l, (f a).Nodup) → (∀ a b x, x ∈ f a → x ∈ f b → a = b) → (l.flatMap f).Nodup
 | [], _, _, _ => by simp
 | a :: l, hn, h1, h2 => by
  have hn' := List.nodup_cons.1 hn
  rw [List.flatMap_cons, List.nodup_append]
  refine ⟨h1 a List.mem_cons_self, nodup_flat hn'.2 (fun b hb => h1 b (List.mem_cons_of_mem _ hb)) h2, fun x hx y hy e => ?_⟩
  subst e
  obtain ⟨b, hb, hy⟩ := List.mem_flatMap.1 hy
  exact hn'.1 (h2 a b x hx hy ▸ hb)
theorem nodup_map {α β : Type} {f : α → β} : ∀ {l : List α}, (∀ a ∈ l, ∀ b ∈ l, f a = f b → a = b) → l.Nodup → (l.map f).Nodup
 | [], _, _ => by simp
 | a :: l, h, hn => by
  have hn' := List.nodup_cons.1 hn
  rw [List.map_cons, List.nodup_cons]
  refine ⟨fun hm => ?_, nodup_map (fun x hx y hy => h x (List.mem_cons_of_mem _ hx) y (List.mem_cons_of_mem _ hy)) hn'.2⟩
  obtain ⟨b, hb, e⟩ := List.mem_map.1 hm
  have := h b (List.mem_cons_of_mem _ hb) a List.mem_cons_self e
  exact hn'.1 (this ▸ hb)
theorem cands_nodup (p : List (List ByteArray)) : ∀ L, (cands p L).Nodup
 | [] => by unfold cands; simp
 | a :: L => by
  unfold cands
  refine nodup_flat List.nodup_range (fun d _ => ?_) fun d e x h1 h2 => ?_
  ·split
   ·simp
   ·exact nodup_map (fun x _ y _ e => by simpa using e) (cands_nodup p L)
  ·split at h1
   ·cases h1
   ·split at h2
    ·cases h2
    ·obtain ⟨x1, _, rfl⟩ := List.mem_map.1 h1
     obtain ⟨x2, _, e2⟩ := List.mem_map.1 h2
     rw [List.cons.injEq] at e2
     omega
theorem entN_congr {D E : Dg} {i k : Nat} {s : ByteArray} : ∀ n, (∀ x, x < n → D (i, k, x) = E (i, k, x)) → entN D i k s n = entN E i k s n
 | 0, _ => rfl
 | n + 1, h => by
  unfold entN digB
  rw [entN_congr n fun x hx => h x (by omega), h n (by omega)]
theorem sumN_congr {f g : Nat → Int} : ∀ n, (∀ x, x < n → f x = g x) → sumN f n = sumN g n
 | 0, _ => rfl
 | n + 1, h => by unfold sumN; rw [sumN_congr n fun x hx => h x (by omega), h n (by omega)]
theorem rowB_congr {D E : Dg} {p : List (List ByteArray)} {i : Nat} (h : ∀ b : Pl, b.1 = i → D b = E b) : rowB D p i = rowB E p i := by
 have key : ∀ k, valN D p i k = valN E p i k := fun k => entN_congr _ fun x _ => h _ rfl
 unfold rowB
 rw [key, sumN_congr _ fun x _ => key x]
def ovr (D : Dg) (M : List Pl) (g : List Int) : Dg := fun b => match asgD M g b with
 | some d => some d
 | none => D b
theorem ovr_cons {D : Dg} {a : Pl} {M : List Pl} {d : Int} {g : List Int} : ovr D (a :: M) (d :: g) = fun b => if b = a then some d else ovr D M g b := by
 funext b
 unfold ovr
 show (match updD (asgD M g) a d b with | some d => some d | none => D b) = _
 unfold updD
 by_cases e : b = a
 ·rw [if_pos e, if_pos e]
 ·rw [if_neg e, if_neg e]
theorem ovr_step {D E : Dg} {a : Pl} {M : List Pl} {d : Int} {g : List Int} (ha : a ∉ M) (hg : g.length = M.length) (h : ∀ b, b ∉ a :: M → E b = D b) : ovr (updD E a d) M g = ovr D (a :: M) (d :: g) := by
 rw [ovr_cons]
 funext b
 by_cases e : b = a
 ·subst e
  rw [if_pos rfl]
  unfold ovr
  rw [asgD_out ha]
  unfold updD
  rw [if_pos rfl]
 ·rw [if_neg e]
  unfold ovr
  by_cases hb : b ∈ M
  ·obtain ⟨x, hx, _⟩ := asgD_in hg hb
   rw [hx]
  ·rw [asgD_out hb]
   show updD E a d b = D b
   unfold updD
   rw [if_neg e]
   exact h b fun hm => by
    rcases List.mem_cons.1 hm with hm | hm
    ·exact e hm
    ·exact hb hm
def okM (p : List (List ByteArray)) (L M : List Pl) (E : Dg) : Bool := M.all (fun a => !lastB L a || rowB E p a.1) && colsB E p
theorem end_in (i : Nat) : ∀ (M : List Pl) (o : Pl), (∃ b ∈ M, b.1 = i) → M.foldl (fun o a => if a.1 = i then a else o) o ∈ M ∧ (M.foldl (fun o a => if a.1 = i then a else o) o).1 = i
 | [], o, h => by obtain ⟨b, hb, _⟩ := h; cases hb
 | a :: M, o, h => by
  rw [List.foldl_cons]
  by_cases h2 : ∃ b ∈ M, b.1 = i
  ·have := end_in i M (if a.1 = i then a else o) h2
   exact ⟨List.mem_cons_of_mem _ this.1, this.2⟩
  ·obtain ⟨b, hb, e⟩ := h
   have : b = a := by
    rcases List.mem_cons.1 hb with hb | hb
    ·exact hb
    ·exact absurd ⟨b, hb, e⟩ h2
   subst this
   have key : ∀ (M : List Pl) (o : Pl), (¬ ∃ b ∈ M, b.1 = i) → M.foldl (fun o a => if a.1 = i then a else o) o = o := by
    intro M
    induction M with
    | nil => intro o _; rfl
    | cons c M ih =>
     intro o hno
     rw [List.foldl_cons, if_neg fun e => hno ⟨c, List.mem_cons_self, e⟩]
     exact ih o fun ⟨b, hb, e⟩ => hno ⟨b, List.mem_cons_of_mem _ hb, e⟩
   rw [key M _ h2, if_pos e]
   exact ⟨List.mem_cons_self, e⟩
theorem last_after {L1 M : List Pl} {a : Pl} (ha : a ∉ M) (h : lastB (L1 ++ a :: M) a = true) : ∀ b ∈ M, b.1 ≠ a.1 := by
 intro b hb e
 unfold lastB endP at h
 rw [beq_iff_eq, List.foldl_append, List.foldl_cons] at h
 have := (end_in a.1 M (if a.1 = a.1 then a else L1.foldl (fun o x => if x.1 = a.1 then x else o) (0, 0, 0)) ⟨b, hb, e⟩).1
 rw [← h] at this
 exact ha this
theorem filter_none {α : Type} {f : α → Bool} : ∀ {l : List α}, (∀ x ∈ l, f x = false) → l.filter f = []
 | [], _ => rfl
 | a :: l, h => by rw [List.filter_cons, h a List.mem_cons_self, filter_none fun x hx => h x (List.mem_cons_of_mem _ hx)]; rfl
def oneR (p : List (List ByteArray)) (L M : List Pl) (D : Dg) : List (List Int) := ((cands p M).filter fun g => okM p L M (ovr D M g)).map fun g => digsL L (ovr D M g)
theorem toG_all {p : List (List ByteArray)} {L L1 M : List Pl} {a : Pl} {g : Dg → Dg × List (List Int)} (hL : L = L1 ++ a :: M) (ha : a ∉ M)
  (hg : ∀ D, (g D).2 = oneR p L M D ∧ ∀ b, b ∉ M → (g D).1 b = D b) (D : Dg) : ∀ d, d ≤ 10 →
  (toG p L a g D d).2 = (List.range d).flatMap (fun (e : Nat) => if e = 0 ∧ firstB p a = true then [] else ((cands p M).filter fun y => okM p L (a :: M) (ovr D (a :: M) ((e : Int) :: y))).map fun y => digsL L (ovr D (a :: M) ((e : Int) :: y))) ∧ ∀ b, b ∉ a :: M → (toG p L a g D d).1 b = D b
 | 0, _ => ⟨rfl, fun _ _ => rfl⟩
 | d + 1, h => by
  obtain ⟨ih1, ih2⟩ := toG_all hL ha hg D d (by omega)
  have hs : toG p L a g D (d + 1) = stepR p L a g (toG p L a g D d) d := rfl
  obtain ⟨S, hS⟩ : ∃ S, toG p L a g D d = S := ⟨_, rfl⟩
  rw [hS] at ih1 ih2 hs
  rw [hs, List.range_succ, List.flatMap_append, ← ih1]
  have hlen : ∀ y ∈ cands p M, y.length = M.length := fun y hy => (mem_cands.1 hy).1
  have hov : ∀ y ∈ cands p M, ovr (updD S.1 a (d : Int)) M y = ovr D (a :: M) ((d : Int) :: y) := fun y hy => ovr_step ha (hlen y hy) ih2
  have hrow : lastB L a = true → ∀ y ∈ cands p M, rowB (updD S.1 a (d : Int)) p a.1 = rowB (ovr D (a :: M) ((d : Int) :: y)) p a.1 := fun hl y hy => by
   rw [← hov y hy]
   refine rowB_congr fun b hb => ?_
   unfold ovr
   rw [asgD_out fun hm => last_after (L1 := L1) ha (hL ▸ hl) b hm hb]
  simp only [List.flatMap_cons, List.flatMap_nil, List.append_nil]
  unfold stepR
  split
  ·exact ⟨by rw [List.append_nil], ih2⟩
  ·split
   ·rename_i hc
    simp only [Bool.and_eq_true, Bool.not_eq_true'] at hc
    refine ⟨?_, fun b hb => ?_⟩
    ·rw [filter_none, List.map_nil, List.append_nil]
     intro y hy
     unfold okM
     rw [List.all_cons, ← hrow hc.1 y hy, hc.1, hc.2]; rfl
    ·show updD S.1 a (d : Int) b = D b
     unfold updD
     rw [if_neg (fun e : b = a => hb (e ▸ List.mem_cons_self))]
     exact ih2 b hb
   ·rename_i hc
    have hc' : lastB L a = true → rowB (updD S.1 a (d : Int)) p a.1 = true := fun hl => by
     rcases Bool.eq_false_or_eq_true (rowB (updD S.1 a (d : Int)) p a.1) with h | h
     ·exact h
     ·exact absurd (by rw [hl, h]; rfl) hc
    refine ⟨?_, fun b hb => ?_⟩
    ·show S.2 ++ (g (updD S.1 a (d : Int))).2 = _
     rw [(hg _).1]
     congr 1
     unfold oneR
     have e1 : ((cands p M).filter fun y => okM p L M (ovr (updD S.1 a (d : Int)) M y)) = (cands p M).filter fun y => okM p L (a :: M) (ovr D (a :: M) ((d : Int) :: y)) := by
      refine List.filter_congr fun y hy => ?_
      rw [hov y hy]
      unfold okM
      rw [List.all_cons]
      have : (!lastB L a || rowB (ovr D (a :: M) ((d : Int) :: y)) p a.1) = true := by
       rcases Bool.eq_false_or_eq_true (lastB L a) with h | h
       ·rw [← hrow h y hy, hc' h]; simp
       ·rw [h]; rfl
      rw [this]; rfl
     rw [e1]
     refine List.map_congr_left fun y hy => ?_
     rw [hov y (List.mem_filter.1 hy).1]
    ·show (g (updD S.1 a (d : Int))).1 b = D b
     rw [(hg _).2 b fun hm => hb (List.mem_cons_of_mem _ hm)]
     unfold updD
     rw [if_neg (fun e : b = a => hb (e ▸ List.mem_cons_self))]
     exact ih2 b hb
theorem flatMap_if {α β : Type} {c : α → Prop} [DecidablePred c] {f : α → List β} {k : β → Bool} {m : β → β} (l : List α) : ((l.flatMap fun d => if c d then [] else f d).filter k).map m = l.flatMap fun d => if c d then [] else ((f d).filter k).map m := by
 induction l with
 | nil => rfl
 | cons a l ih =>
  rw [List.flatMap_cons, List.flatMap_cons, List.filter_append, List.map_append, ih]
  congr 1
  split <;> rfl
theorem fillG_all (p : List (List ByteArray)) (L : List Pl) (hn : L.Nodup) : ∀ (r k : Nat), k + r = L.length → ∀ D, (fillG p L r k D).2 = oneR p L (L.drop k) D ∧ ∀ b, b ∉ L.drop k → (fillG p L r k D).1 b = D b
 | 0, k, h, D => by
  have hd : L.drop k = [] := List.drop_eq_nil_of_le (by omega)
  rw [hd]
  refine ⟨?_, fun _ _ => rfl⟩
  have ho : ovr D [] [] = D := rfl
  show (if colsB D p = true then [digsL L D] else []) = _
  unfold oneR cands
  rw [List.filter_cons, ho]
  unfold okM
  rw [List.all_nil, Bool.true_and]
  split <;> rfl
 | r + 1, k, h, D => by
  have hk : k < L.length := by omega
  have ea : L.getD k (0, 0, 0) = L[k] := by rw [List.getD_eq_getElem?_getD, List.getElem?_eq_getElem hk]; rfl
  have hd : L.drop k = L[k] :: L.drop (k + 1) := List.drop_eq_getElem_cons hk
  have hsp : L = L.take k ++ L[k] :: L.drop (k + 1) := by rw [← hd, List.take_append_drop]
  have hnd : (L[k] :: L.drop (k + 1)).Nodup := by rw [← hd]; exact hn.sublist (List.drop_sublist _ _)
  have ha := (List.nodup_cons.1 hnd).1
  have key := toG_all (p := p) (g := fillG p L r (k + 1)) hsp ha (fun D => fillG_all p L hn r (k + 1) (by omega) D) D 10 (Nat.le_refl _)
  have e : fillG p L (r + 1) k D = toG p L L[k] (fillG p L r (k + 1)) D 10 := by rw [← ea]; rfl
  rw [e, hd]
  refine ⟨?_, key.2⟩
  rw [key.1]
  unfold oneR
  rw [show cands p (L[k] :: L.drop (k + 1)) = (List.range 10).flatMap fun (d : Nat) => if d = 0 ∧ firstB p L[k] = true then [] else (cands p (L.drop (k + 1))).map fun g => (d : Int) :: g from rfl, flatMap_if]
  refine flatMap_cong fun d _ => ?_
  split
  ·rfl
  ·rw [List.filter_map, List.map_map]
   rfl
theorem places_nodup (p : List (List ByteArray)) : (placesP p).Nodup := (places_pw p).imp fun h => plLt_ne h
theorem readG_eq (p : List (List ByteArray)) : readG p = (cands p (placesP p)).filter fun g => agE p (asgD (placesP p) g) := by
 have hn := places_nodup p
 have hf := (fillG_all p (placesP p) hn (placesP p).length 0 (by omega) fun _ => none).1
 rw [List.drop_zero] at hf
 have ho : ∀ g, ovr (fun _ => none) (placesP p) g = asgD (placesP p) g := fun g => by
  funext b
  unfold ovr
  cases asgD (placesP p) g b <;> rfl
 have hone : oneR p (placesP p) (placesP p) (fun _ => none) = (cands p (placesP p)).filter fun g => okM p (placesP p) (placesP p) (asgD (placesP p) g) := by
  unfold oneR
  simp only [ho]
  have : ∀ g ∈ (cands p (placesP p)).filter (fun g => okM p (placesP p) (placesP p) (asgD (placesP p) g)), digsL (placesP p) (asgD (placesP p) g) = id g := fun g hg => digs_asg hn (mem_cands.1 ((List.mem_filter.1 hg).1)).1
  rw [List.map_congr_left this, List.map_id]
 have hrows : ∀ g, (rowsB (fun _ => none) p (placesP p) && okM p (placesP p) (placesP p) (asgD (placesP p) g)) = agE p (asgD (placesP p) g) := fun g => by
  have hsame : ∀ i, openB (placesP p) i = false → rowB (asgD (placesP p) g) p i = rowB (fun _ => none) p i := fun i hi => rowB_congr fun b hb => asgD_out fun hm => by
   unfold openB at hi
   rw [List.any_eq_false] at hi
   exact hi b hm (by rw [hb]; simp)
  rw [Bool.eq_iff_iff]
  unfold rowsB okM agE
  simp only [Bool.and_eq_true, List.all_eq_true, List.mem_range, Bool.or_eq_true, Bool.not_eq_true']
  constructor
  ·rintro ⟨h1, h2, h3⟩
   refine ⟨fun i hi => ?_, h3⟩
   rcases Bool.eq_false_or_eq_true (openB (placesP p) i) with ho | ho
   ·unfold openB at ho
    rw [List.any_eq_true] at ho
    obtain ⟨b, hb, e⟩ := ho
    have := end_in i (placesP p) (0, 0, 0) ⟨b, hb, by simpa using e⟩
    have hl : lastB (placesP p) (endP (placesP p) i) = true := by
     unfold lastB
     rw [beq_iff_eq, show (endP (placesP p) i).1 = i from this.2]
    rcases h2 _ this.1 with h | h
    ·exact absurd (hl.symm.trans h) (by decide)
    ·rw [this.2] at h; exact h
   ·rw [hsame i ho]
    rcases h1 i hi with h | h
    ·exact absurd (ho.symm.trans h) (by decide)
    ·exact h
  ·rintro ⟨h1, h3⟩
   refine ⟨fun i hi => ?_, fun a ha => .inr (h1 _ (mem_places ha).1), h3⟩
   rcases Bool.eq_false_or_eq_true (openB (placesP p) i) with ho | ho
   ·exact .inl ho
   ·exact .inr (hsame i ho ▸ h1 i hi)
 unfold readG
 rw [hf, hone]
 split
 ·rename_i h
  refine List.filter_congr fun g _ => ?_
  rw [← hrows, h, Bool.true_and]
 ·rename_i h
  rw [filter_none]
  intro g _
  have h : rowsB (fun _ => none) p (placesP p) = false := by simpa using h
  rw [← hrows, h]; rfl
end Go.Ow

namespace Go.Ow
open Go Go.RowKit Go.Pm
abbrev Pg := List (List ByteArray)
def inP (p : Pg) (a : Pl) : Prop := a.1 < p.length ∧ a.2.1 < (rowA p a.1).length ∧ a.2.2 < (entA (rowA p a.1) a.2.1).size
def byA (p : Pg) (a : Pl) : UInt8 := (entA (rowA p a.1) a.2.1).data.toList.getD a.2.2 0
def shp (p : Pg) : List (List Nat) := p.map fun r => r.map ByteArray.size
theorem mem_places_iff {p : Pg} {a : Pl} : a ∈ placesP p ↔ inP p a ∧ byA p a = 63 := by
 unfold placesP inP byA
 rw [mem_upP]
 exact ⟨fun ⟨h1, h2, h3, h4⟩ => ⟨⟨h1, h2, h3⟩, h4⟩, fun ⟨⟨h1, h2, h3⟩, h4⟩ => ⟨h1, h2, h3, h4⟩⟩
theorem shp_row (p : Pg) (i : Nat) : (shp p).getD i [] = (rowA p i).map ByteArray.size := by
 unfold shp rowA
 rw [List.getD_eq_getElem?_getD, List.getD_eq_getElem?_getD, List.getElem?_map]
 cases p[i]? <;> rfl
theorem size_ent (r : List ByteArray) (k : Nat) : (r.map ByteArray.size).getD k 0 = (entA r k).size := by
 unfold entA
 rw [List.getD_eq_getElem?_getD, List.getD_eq_getElem?_getD, List.getElem?_map]
 cases r[k]? <;> rfl
theorem shp_len {p q : Pg} (h : shp p = shp q) : p.length = q.length := by
 have := congrArg List.length h
 unfold shp at this
 simpa using this
theorem shp_rowl {p q : Pg} (h : shp p = shp q) (i : Nat) : (rowA p i).length = (rowA q i).length := by
 have h1 := shp_row p i
 rw [h, shp_row q i] at h1
 have := congrArg List.length h1
 simpa using this.symm
theorem shp_size {p q : Pg} (h : shp p = shp q) (i k : Nat) : (entA (rowA p i) k).size = (entA (rowA q i) k).size := by
 rw [← size_ent, ← size_ent, ← shp_row, ← shp_row, h]
theorem shp_in {p q : Pg} (h : shp p = shp q) (a : Pl) : inP p a ↔ inP q a := by
 unfold inP
 rw [shp_len h, shp_rowl h, shp_size h]
theorem shp_wide {p q : Pg} (h : shp p = shp q) : wideP p = wideP q := shp_rowl h 0
theorem shp_first {p q : Pg} (h : shp p = shp q) (a : Pl) : firstB p a = firstB q a := by
 unfold firstB
 rw [shp_size h]
theorem ba_ext2 {a b : ByteArray} (h : a.size = b.size) (hx : ∀ x, x < a.size → a.data.toList.getD x 0 = b.data.toList.getD x 0) : a = b := by
 have e : a.data.toList = b.data.toList := by
  apply List.ext_getElem?
  intro x
  by_cases hl : x < a.size
  ·have := hx x hl
   rw [List.getD_eq_getElem?_getD, List.getD_eq_getElem?_getD, List.getElem?_eq_getElem (by rw [bytes_len]; exact hl), List.getElem?_eq_getElem (by rw [bytes_len]; omega)] at this
   rw [List.getElem?_eq_getElem (by rw [bytes_len]; exact hl), List.getElem?_eq_getElem (by rw [bytes_len]; omega)]
   simpa using this
  ·rw [List.getElem?_eq_none (by rw [bytes_len]; omega), List.getElem?_eq_none (by rw [bytes_len]; omega)]
 cases a; cases b
 congr 1
 exact Array.ext' e
theorem page_ext {p q : Pg} (h : shp p = shp q) (hb : ∀ a, inP p a → byA p a = byA q a) : p = q := by
 apply List.ext_getElem?
 intro i
 by_cases hi : i < p.length
 ·have hi2 : i < q.length := by rw [← shp_len h]; exact hi
  rw [List.getElem?_eq_getElem hi, List.getElem?_eq_getElem hi2]
  congr 1
  have e1 : rowA p i = p[i] := by unfold rowA; rw [List.getD_eq_getElem?_getD, List.getElem?_eq_getElem hi]; rfl
  have e2 : rowA q i = q[i] := by unfold rowA; rw [List.getD_eq_getElem?_getD, List.getElem?_eq_getElem hi2]; rfl
  rw [← e1, ← e2]
  have hl := shp_rowl h i
  apply List.ext_getElem?
  intro k
  by_cases hk : k < (rowA p i).length
  ·have hk2 : k < (rowA q i).length := by rw [← hl]; exact hk
   rw [List.getElem?_eq_getElem hk, List.getElem?_eq_getElem hk2]
   congr 1
   have f1 : entA (rowA p i) k = (rowA p i)[k] := by unfold entA; rw [List.getD_eq_getElem?_getD, List.getElem?_eq_getElem hk]; rfl
   have f2 : entA (rowA q i) k = (rowA q i)[k] := by unfold entA; rw [List.getD_eq_getElem?_getD, List.getElem?_eq_getElem hk2]; rfl
   rw [← f1, ← f2]
   exact ba_ext2 (shp_size h i k) fun x hx => hb (i, k, x) ⟨hi, hk, hx⟩
  ·rw [List.getElem?_eq_none (by omega), List.getElem?_eq_none (by omega)]
 ·rw [List.getElem?_eq_none (by omega), List.getElem?_eq_none (by rw [← shp_len h]; omega)]
theorem rowA_fix (S : Dg) (p : Pg) (i : Nat) : rowA (fixP S p) i = fixR S i (rowA p i) := by
 unfold rowA fixP
 rw [List.getD_eq_getElem?_getD, List.getElem?_map]
 by_cases h : i < p.length
 ·rw [List.getElem?_range h]; rfl
 ·rw [List.getElem?_eq_none (by rw [List.length_range]; omega), List.getD_eq_getElem?_getD, List.getElem?_eq_none (by omega)]; rfl
theorem entA_fix (S : Dg) (i : Nat) (r : List ByteArray) (k : Nat) : entA (fixR S i r) k = fixS S i k (entA r k) := by
 unfold entA fixR
 rw [List.getD_eq_getElem?_getD, List.getElem?_map]
 by_cases h : k < r.length
 ·rw [List.getElem?_range h]; rfl
 ·rw [List.getElem?_eq_none (by rw [List.length_range]; omega), List.getD_eq_getElem?_getD, List.getElem?_eq_none (by omega)]; rfl
theorem size_fix (S : Dg) (i k : Nat) (s : ByteArray) : (fixS S i k s).size = s.size := by
 unfold fixS
 show (fixL S i k s).toArray.size = _
 unfold fixL
 simp
theorem fix_shp (S : Dg) (p : Pg) : shp (fixP S p) = shp p := by
 have key : ∀ (l : List Nat) (m : List Nat), l.length = m.length → (∀ i, l.getD i 0 = m.getD i 0) → l = m := fun l m h1 h2 => by
  apply List.ext_getElem h1
  intro i a b
  have := h2 i
  rw [List.getD_eq_getElem?_getD, List.getD_eq_getElem?_getD, List.getElem?_eq_getElem a, List.getElem?_eq_getElem b] at this
  exact this
 have key2 : ∀ (l : List (List Nat)) (m : List (List Nat)), l.length = m.length → (∀ i, l.getD i [] = m.getD i []) → l = m := fun l m h1 h2 => by
  apply List.ext_getElem h1
  intro i a b
  have := h2 i
  rw [List.getD_eq_getElem?_getD, List.getD_eq_getElem?_getD, List.getElem?_eq_getElem a, List.getElem?_eq_getElem b] at this
  exact this
 refine key2 _ _ (by unfold shp; rw [List.length_map, List.length_map, fixP_len]) fun i => ?_
 rw [shp_row, shp_row, rowA_fix]
 refine key _ _ (by rw [List.length_map, List.length_map, fixR_len]) fun k => ?_
 rw [size_ent, size_ent, entA_fix, size_fix]
theorem fix_by (S : Dg) (p : Pg) {a : Pl} (h : inP p a) : byA (fixP S p) a = fixB S a (byA p a) := by
 unfold byA
 rw [rowA_fix, entA_fix]
 show (fixL S a.1 a.2.1 (entA (rowA p a.1) a.2.1)).getD a.2.2 0 = _
 unfold fixL
 rw [List.getD_eq_getElem?_getD, List.getElem?_map, List.getElem?_range h.2.2]
 rfl
def oneD (a : Pl) (d : Int) : Dg := updD (fun _ => none) a d
def setP (p : Pg) (a : Pl) (d : Int) : Pg := fixP (oneD a d) p
theorem set_shp (p : Pg) (a : Pl) (d : Int) : shp (setP p a d) = shp p := fix_shp _ _
theorem set_by (p : Pg) (a : Pl) (d : Int) {b : Pl} (h : inP p b) : byA (setP p a d) b = if b = a then UInt8.ofNat (48 + d.toNat) else byA p b := by
 unfold setP
 rw [fix_by _ _ h]
 unfold fixB oneD updD
 by_cases e : b = a
 ·rw [if_pos e, if_pos e]
 ·rw [if_neg e, if_neg e]
theorem byte_ne {d : Int} (h0 : 0 ≤ d) (h9 : d ≤ 9) : UInt8.ofNat (48 + d.toNat) ≠ 63 := by
 intro e
 have := congrArg UInt8.toNat e
 simp at this
 omega
theorem byte_nat {d : Int} (h0 : 0 ≤ d) (h9 : d ≤ 15) : ((UInt8.ofNat (48 + d.toNat)).toNat : Int) = 48 + d := by
 have : (UInt8.ofNat (48 + d.toNat)).toNat = (48 + d.toNat) % 256 := by simp
 rw [this]; omega
def preB (p : Pg) : Bool := inW p.length 2 5 && p.all (rowOk (wideP p))
theorem valid_pre (p : Pg) : validB p = (preB p && decide (lostP p ≤ 5)) := by unfold validB preB; rw [Bool.and_assoc]
def shpOk (p : Pg) : Prop := (2 ≤ p.length ∧ p.length ≤ 5) ∧ (∀ i, i < p.length → (2 ≤ (rowA p i).length ∧ (rowA p i).length ≤ 5) ∧ (rowA p i).length = wideP p) ∧ ∀ i k, i < p.length → k < (rowA p i).length → 1 ≤ (entA (rowA p i) k).size ∧ (entA (rowA p i) k).size ≤ 5
theorem shpOk_iff {p q : Pg} (h : shp p = shp q) : shpOk p ↔ shpOk q := by
 unfold shpOk
 simp only [shp_len h, shp_rowl h, shp_size h, shp_wide h]
theorem pre_iff {p : Pg} : preB p = true ↔ shpOk p ∧ ∀ a, inP p a → entC (byA p a).toNat = true ∧ (firstB p a = true → byA p a ≠ 48) := by
 unfold preB shpOk
 rw [Bool.and_eq_true, inW_if, List.all_eq_true]
 have hrow : ∀ i (h : i < p.length), rowA p i = p[i] := fun i h => by unfold rowA; rw [List.getD_eq_getElem?_getD, List.getElem?_eq_getElem h]; rfl
 have hent : ∀ (r : List ByteArray) k (h : k < r.length), entA r k = r[k] := fun r k h => by unfold entA; rw [List.getD_eq_getElem?_getD, List.getElem?_eq_getElem h]; rfl
 have hsz : ∀ s : ByteArray, entB s = true ↔ (1 ≤ s.size ∧ s.size ≤ 5) ∧ ∀ x, x < s.size → entC (s.data.toList.getD x 0).toNat = true ∧ (x = 0 → 1 < s.size → s.data.toList.getD x 0 ≠ 48) := fun s => by
  constructor
  ·intro h
   refine ⟨entB_size h, fun x hx => ⟨entB_C h hx, fun h0 h1 => ?_⟩⟩
   subst h0
   unfold entB at h
   simp only [Bool.and_eq_true, Bool.not_eq_true', Bool.and_eq_false_imp, decide_eq_true_eq] at h
   have := h.2.1 (by omega)
   intro e
   rw [e] at this
   cases this
  ·rintro ⟨h1, h2⟩
   unfold entB
   simp only [Bool.and_eq_true, Bool.not_eq_true', Bool.and_eq_false_imp, decide_eq_true_eq, inW_if, List.all_eq_true]
   refine ⟨by omega, fun h => ?_, fun b hb => ?_⟩
   ·have := (h2 0 (by omega)).2 rfl (by omega)
    cases hc : (((s.data.toList.getD 0 0).toNat : Int) == 48) with
    | false => rfl
    | true =>
     rw [beq_iff_eq] at hc
     have hc2 : (s.data.toList.getD 0 0).toNat = 48 := by omega
     exact absurd (UInt8.toNat_inj.1 (by rw [hc2]; rfl)) this
   ·obtain ⟨x, hx, rfl⟩ := List.getElem_of_mem hb
    rw [bytes_len] at hx
    have := (h2 x hx).1
    rw [List.getD_eq_getElem?_getD, List.getElem?_eq_getElem] at this
    exact this
 constructor
 ·rintro ⟨h1, h2⟩
  have h2' : ∀ i (h : i < p.length), _ := fun i h => h2 p[i] (List.getElem_mem h)
  unfold rowOk at h2'
  simp only [Bool.and_eq_true, inW_if, beq_iff_eq, List.all_eq_true] at h2'
  refine ⟨⟨by omega, fun i hi => ?_, fun i k hi hk => ?_⟩, fun a ha => ?_⟩
  ·have := h2' i hi
   rw [hrow i hi]
   exact ⟨by omega, this.2.1⟩
  ·have := (h2' i hi).2.2
   rw [hrow i hi] at hk ⊢
   rw [hent _ k hk]
   exact ((hsz _).1 (this _ (List.getElem_mem hk))).1
  ·obtain ⟨i, k, x⟩ := a
   obtain ⟨hi, hk, hx⟩ := ha
   simp only at hi hk hx
   have := (h2' i hi).2.2
   unfold byA firstB
   simp only
   rw [hrow i hi] at hk hx ⊢
   rw [hent _ k hk] at hx ⊢
   have := ((hsz _).1 (this _ (List.getElem_mem hk))).2 x hx
   refine ⟨this.1, fun hf => ?_⟩
   simp only [Bool.and_eq_true, beq_iff_eq, decide_eq_true_eq] at hf
   exact this.2 hf.1 hf.2
 ·rintro ⟨⟨h1, h2, h3⟩, h4⟩
  refine ⟨by omega, fun r hr => ?_⟩
  obtain ⟨i, hi, rfl⟩ := List.getElem_of_mem hr
  have q1 := h2 i hi
  have q2 := h3 i
  have q3 := fun k x => h4 (i, k, x)
  unfold inP byA firstB at q3
  simp only at q3
  rw [hrow i hi] at q1
  unfold rowOk
  simp only [Bool.and_eq_true, inW_if, beq_iff_eq, List.all_eq_true]
  refine ⟨by omega, q1.2, fun s hs => ?_⟩
  obtain ⟨k, hk, rfl⟩ := List.getElem_of_mem hs
  have q2 := q2 k hi (by rw [hrow i hi]; exact hk)
  rw [hrow i hi, hent _ k hk] at q2
  rw [hsz]
  refine ⟨q2, fun x hx => ?_⟩
  have := q3 k x ⟨hi, by rw [hrow i hi]; exact hk, by rw [hrow i hi, hent _ k hk]; exact hx⟩
  rw [hrow i hi, hent _ k hk] at this
  refine ⟨this.1, fun h0 h1' => this.2 ?_⟩
  rw [h0]
  simpa using h1'
theorem valid_iff {p : Pg} : validB p = true ↔ shpOk p ∧ (∀ a, inP p a → entC (byA p a).toNat = true ∧ (firstB p a = true → byA p a ≠ 48)) ∧ (placesP p).length ≤ 5 := by
 rw [valid_pre, Bool.and_eq_true, pre_iff, decide_eq_true_eq, places_len, and_assoc]
theorem digB_fix {S : Dg} (hS : DOk S) {a : Pl} {b : UInt8} (h1 : b = 63 → ∃ d, S a = some d) (h2 : b ≠ 63 → S a = none) : digB (fun _ => none) a (fixB S a b) = digB S a b := by
 unfold digB fixB
 by_cases e : b = 63
 ·obtain ⟨d, hd⟩ := h1 e
  have hd9 := hS a d hd
  rw [hd, if_pos e]
  simp only
  rw [if_neg (byte_ne hd9.1 hd9.2), byte_nat hd9.1 (by omega), Option.getD_some]
  omega
 ·rw [h2 e]
theorem val_fix {S : Dg} (hS : DOk S) {p : Pg} (h1 : ∀ a, inP p a → byA p a = 63 → ∃ d, S a = some d) (h2 : ∀ a, inP p a → byA p a ≠ 63 → S a = none) {i k : Nat} (hi : i < p.length) (hk : k < (rowA p i).length) : valN (fun _ => none) (fixP S p) i k = valN S p i k := by
 unfold valN
 rw [rowA_fix, entA_fix, size_fix]
 have key : ∀ n, n ≤ (entA (rowA p i) k).size → entN (fun _ => none) i k (fixS S i k (entA (rowA p i) k)) n = entN S i k (entA (rowA p i) k) n := by
  intro n
  induction n with
  | zero => intro _; rfl
  | succ n ih =>
   intro hn
   unfold entN
   rw [ih (by omega)]
   congr 1
   have hin : inP p (i, k, n) := ⟨hi, hk, hn⟩
   have e := fix_by S p hin
   unfold byA at e
   simp only at e
   rw [rowA_fix, entA_fix] at e
   rw [e]
   exact digB_fix hS (h1 _ hin) (h2 _ hin)
 exact key _ (Nat.le_refl _)
theorem wide_row {p : Pg} (h : shpOk p) {i : Nat} (hi : i < p.length) : (rowA p i).length = wideP p := (h.2.1 i hi).2
theorem ag_fix {S : Dg} (hS : DOk S) {p : Pg} (hok : shpOk p) (h1 : ∀ a, inP p a → byA p a = 63 → ∃ d, S a = some d) (h2 : ∀ a, inP p a → byA p a ≠ 63 → S a = none) : agE (fixP S p) (fun _ => none) = agE p S := by
 have hv : ∀ i k, i < p.length → k < wideP p → valN (fun _ => none) (fixP S p) i k = valN S p i k := fun i k hi hk => val_fix hS h1 h2 hi (by rw [wide_row hok hi]; exact hk)
 have hw := shp_wide (fix_shp S p)
 have hl := fixP_len S p
 have hl2 := hok.1.1
 have hw2 : 2 ≤ wideP p := by
  have h := hok.2.1 0 (by omega)
  rw [← h.2]; exact h.1.1
 unfold agE colsB
 rw [hl, hw]
 congr 1
 ·rw [Bool.eq_iff_iff, List.all_eq_true, List.all_eq_true]
  have : ∀ i, i < p.length → rowB (fun _ => none) (fixP S p) i = rowB S p i := fun i hi => by
   unfold rowB
   rw [hw, hv i _ hi (by omega), sumN_congr _ fun x hx => hv i x hi (by omega)]
  exact ⟨fun h i hi => by rw [← this i (List.mem_range.1 hi)]; exact h i hi, fun h i hi => by rw [this i (List.mem_range.1 hi)]; exact h i hi⟩
 ·rw [Bool.eq_iff_iff, List.all_eq_true, List.all_eq_true]
  have : ∀ k, k < wideP p → colB (fun _ => none) (fixP S p) k = colB S p k := fun k hk => by
   unfold colB
   rw [hl, hv _ k (by omega) hk, sumN_congr _ fun x hx => hv x k (by omega) hk]
  exact ⟨fun h i hi => by rw [← this i (List.mem_range.1 hi)]; exact h i hi, fun h i hi => by rw [this i (List.mem_range.1 hi)]; exact h i hi⟩
theorem asg_ok {p : Pg} {L : List Pl} {g : List Int} (h : g ∈ cands p L) : DOk (asgD L g) := by
 intro a d hd
 have hg := mem_cands.1 h
 by_cases ha : a ∈ L
 ·obtain ⟨x, hx, hm⟩ := asgD_in hg.1 ha
  rw [hx] at hd
  cases hd
  obtain ⟨j, hj, e⟩ := List.getElem_of_mem hm
  exact (hg.2 j L[j] d (List.getElem?_eq_getElem _) (by rw [List.getElem?_eq_getElem hj, e])).1
 ·rw [asgD_out ha] at hd; cases hd
def pagesR (p : Pg) : List Pg := (readG p).map fun g => fixP (asgD (placesP p) g) p
def digU (b : UInt8) : Prop := 48 ≤ b.toNat ∧ b.toNat ≤ 57
def likeP (p q : Pg) : Prop := shp q = shp p ∧ ∀ a, inP p a → byA p a ≠ 63 → byA q a = byA p a
def goodP (p q : Pg) : Prop := likeP p q ∧ (∀ a, inP p a → digU (byA q a)) ∧ (∀ a, inP p a → firstB p a = true → byA q a ≠ 48) ∧ agE q (fun _ => none) = true
theorem asg_at {p : Pg} {g : List Int} (h : g ∈ cands p (placesP p)) {a : Pl} (ha : inP p a) : (byA p a = 63 → ∃ d, asgD (placesP p) g a = some d) ∧ (byA p a ≠ 63 → asgD (placesP p) g a = none) := by
 refine ⟨fun e => ?_, fun e => asgD_out fun hm => e (mem_places_iff.1 hm).2⟩
 obtain ⟨d, hd, _⟩ := asgD_in (mem_cands.1 h).1 (mem_places_iff.2 ⟨ha, e⟩)
 exact ⟨d, hd⟩
theorem asg_get {L : List Pl} {g : List Int} (hn : L.Nodup) (hl : g.length = L.length) {j : Nat} {a : Pl} (ha : L[j]? = some a) : asgD L g a = some (g.getD j 0) := by
 have hm := List.mem_of_getElem? ha
 obtain ⟨d, hd, _⟩ := asgD_in hl hm
 have e := digs_asg hn hl
 have : (digsL L (asgD L g)).getD j 0 = d := by
  unfold digsL
  rw [List.getD_eq_getElem?_getD, List.getElem?_map, ha]
  show ((asgD L g) a).getD 0 = d
  rw [hd]; rfl
 rw [e] at this
 rw [hd, this]
theorem mem_pages {p q : Pg} (hv : validB p = true) : q ∈ pagesR p ↔ goodP p q := by
 have hv' := valid_iff.1 hv
 have hn := places_nodup p
 unfold pagesR
 rw [List.mem_map, readG_eq]
 constructor
 ·rintro ⟨g, hg, rfl⟩
  obtain ⟨hg, hag⟩ := List.mem_filter.1 hg
  have hok := asg_ok hg
  have hc := mem_cands.1 hg
  have hby : ∀ a, inP p a → byA p a = 63 → ∃ d, asgD (placesP p) g a = some d ∧ byA (fixP (asgD (placesP p) g) p) a = UInt8.ofNat (48 + d.toNat) := fun a ha e => by
   obtain ⟨d, hd⟩ := (asg_at hg ha).1 e
   refine ⟨d, hd, ?_⟩
   rw [fix_by _ _ ha]
   unfold fixB
   rw [hd]
  have hby2 : ∀ a, inP p a → byA p a ≠ 63 → byA (fixP (asgD (placesP p) g) p) a = byA p a := fun a ha e => by
   rw [fix_by _ _ ha]
   unfold fixB
   rw [(asg_at hg ha).2 e]
  refine ⟨⟨fix_shp _ _, hby2⟩, fun a ha => ?_, fun a ha hf => ?_, ?_⟩
  ·by_cases e : byA p a = 63
   ·obtain ⟨d, hd, hb⟩ := hby a ha e
    rw [hb]
    have := hok a d hd
    have := byte_nat this.1 (show d ≤ 15 by omega)
    unfold digU; omega
   ·rw [hby2 a ha e]
    have := (hv'.2.1 a ha).1
    unfold entC inW at this
    simp only [Bool.or_eq_true, beq_iff_eq, Bool.and_eq_true, decide_eq_true_eq] at this
    have h63 : ¬ ((byA p a).toNat : Int) = 63 := fun h => e (UInt8.toNat_inj.1 (by
     have : (byA p a).toNat = 63 := by omega
     rw [this]; rfl))
    unfold digU; omega
  ·by_cases e : byA p a = 63
   ·obtain ⟨d, hd, hb⟩ := hby a ha e
    rw [hb]
    have hm := mem_places_iff.2 ⟨ha, e⟩
    obtain ⟨j, hj, ej⟩ := List.getElem_of_mem hm
    have hja : (placesP p)[j]? = some a := by rw [List.getElem?_eq_getElem hj, ej]
    have h2 := asg_get hn hc.1 hja
    rw [h2] at hd
    cases hd
    have hgj : g[j]? = some (g.getD j 0) := by
     rw [List.getD_eq_getElem?_getD, List.getElem?_eq_getElem (by rw [hc.1]; exact hj)]; rfl
    have h3 := hc.2 j a _ hja hgj
    intro h48
    have := byte_nat h3.1.1 (show g.getD j 0 ≤ 15 by omega)
    rw [h48] at this
    have e48 : (((48 : UInt8).toNat : Nat) : Int) = 48 := rfl
    exact h3.2 hf (by omega)
   ·rw [hby2 a ha e]; exact (hv'.2.1 a ha).2 hf
  ·rw [ag_fix hok hv'.1 (fun a ha e => (asg_at hg ha).1 e) fun a ha e => (asg_at hg ha).2 e]
   exact hag
 ·rintro ⟨⟨h1, h2⟩, h3, h4, h5⟩
  obtain ⟨g, hgd⟩ : ∃ g, (placesP p).map (fun a => ((byA q a).toNat : Int) - 48) = g := ⟨_, rfl⟩
  have hgl : g.length = (placesP p).length := by rw [← hgd, List.length_map]
  have hgj : ∀ (j : Nat) (a : Pl), (placesP p)[j]? = some a → g[j]? = some (((byA q a).toNat : Int) - 48) := fun j a ha => by
   rw [← hgd, List.getElem?_map, ha]; rfl
  have hg : g ∈ cands p (placesP p) := by
   refine mem_cands.2 ⟨hgl, fun j a d ha hd => ?_⟩
   rw [hgj j a ha] at hd
   cases hd
   have hm := mem_places_iff.1 (List.mem_of_getElem? ha)
   have := h3 a hm.1
   unfold digU at this
   refine ⟨by omega, fun hf e => h4 a hm.1 hf ?_⟩
   have e2 : (byA q a).toNat = 48 := by omega
   exact UInt8.toNat_inj.1 (by rw [e2]; rfl)
  have heq : fixP (asgD (placesP p) g) p = q := by
   refine page_ext ((fix_shp _ _).trans h1.symm) fun a ha => ?_
   rw [shp_in (fix_shp _ _)] at ha
   rw [fix_by _ _ ha]
   unfold fixB
   by_cases e : byA p a = 63
   ·have hm := mem_places_iff.2 ⟨ha, e⟩
    obtain ⟨j, hj, ej⟩ := List.getElem_of_mem hm
    have hja : (placesP p)[j]? = some a := by rw [List.getElem?_eq_getElem hj, ej]
    rw [asg_get hn hgl hja]
    have : g.getD j 0 = ((byA q a).toNat : Int) - 48 := by rw [List.getD_eq_getElem?_getD, hgj j a hja]; rfl
    rw [this]
    have hd := h3 a ha
    unfold digU at hd
    show UInt8.ofNat (48 + (((byA q a).toNat : Int) - 48).toNat) = byA q a
    rw [show 48 + (((byA q a).toNat : Int) - 48).toNat = (byA q a).toNat by omega]
    simp
   ·rw [(asg_at hg ha).2 e]
    exact (h2 a ha e).symm
  refine ⟨g, List.mem_filter.2 ⟨hg, ?_⟩, heq⟩
  rw [← ag_fix (asg_ok hg) hv'.1 (fun a ha e => (asg_at hg ha).1 e) (fun a ha e => (asg_at hg ha).2 e), heq]
  exact h5
theorem pages_nodup (p : Pg) : (pagesR p).Nodup := by
 unfold pagesR
 refine nodup_map (fun g hg h hh e => ?_) (by rw [readG_eq]; exact (cands_nodup p _).filter _)
 rw [readG_eq] at hg hh
 have hg := (List.mem_filter.1 hg).1
 have hh := (List.mem_filter.1 hh).1
 have hgc := mem_cands.1 hg
 have hhc := mem_cands.1 hh
 have hn := places_nodup p
 apply List.ext_getElem (hgc.1.trans hhc.1.symm)
 intro j h1 h2
 have hj : j < (placesP p).length := by rw [← hgc.1]; exact h1
 have hja : (placesP p)[j]? = some (placesP p)[j] := List.getElem?_eq_getElem hj
 have hm := mem_places_iff.1 (List.mem_of_getElem? hja)
 have e1 := fix_by (asgD (placesP p) g) p hm.1
 have e2 := fix_by (asgD (placesP p) h) p hm.1
 rw [e] at e1
 rw [e1] at e2
 unfold fixB at e2
 rw [asg_get hn hgc.1 hja, asg_get hn hhc.1 hja] at e2
 have g1 : g.getD j 0 = g[j] := by rw [List.getD_eq_getElem?_getD, List.getElem?_eq_getElem h1]; rfl
 have g2 : h.getD j 0 = h[j] := by rw [List.getD_eq_getElem?_getD, List.getElem?_eq_getElem h2]; rfl
 rw [g1, g2] at e2
 have r1 := (hgc.2 j _ g[j] hja (List.getElem?_eq_getElem h1)).1
 have r2 := (hhc.2 j _ h[j] hja (List.getElem?_eq_getElem h2)).1
 have n1 := byte_nat r1.1 (show g[j] ≤ 15 by omega)
 have n2 := byte_nat r2.1 (show h[j] ≤ 15 by omega)
 simp only at e2
 rw [e2] at n1
 omega
theorem pages_len (p : Pg) : (pagesR p).length = (readG p).length := List.length_map _
end Go.Ow

namespace Go.Proofs.YtdkboibnokipaaaDoor
open Go Go.RowKit Go.Pm Go.Ow
theorem ba_ext {a b : ByteArray} (h : a.data.toList = b.data.toList) : a = b := by
 cases a; cases b
 congr 1
 exact Array.ext' h
theorem valid_mem {p : List (List ByteArray)} (h : validB p = true) {r : List ByteArray} (hr : r ∈ p) : (2 ≤ r.length ∧ r.length ≤ 5) ∧ r.length = wideP p ∧ ∀ s ∈ r, entB s = true := by
 obtain ⟨k, hk⟩ := List.mem_iff_getElem?.1 hr
 exact valid_row h hk
end Go.Proofs.YtdkboibnokipaaaDoor

namespace Go.Ow
open Go Go.Pm
theorem dayB_nn {l : List WRec} : ∀ {k : Nat}, okTo l k = true → 0 ≤ dayB l k
 | 0, _ => Int.le_refl _
 | k + 1, h => by
  have hlen := ok_len h
  obtain ⟨r, hr⟩ : ∃ r, l[k]? = some r := ⟨_, List.getElem?_eq_getElem (by omega)⟩
  have ho := ok_rec h (Nat.lt_succ_self k) hr
  have ih := dayB_nn (ok_less h (Nat.le_succ k))
  simp only [dayB, hr]
  have := ho.day.1
  omega
end Go.Ow

namespace Go.Proofs.YtdkboibnokipaaaDoor
open Go.RowKit Go.Pm Go.Ow
end Go.Proofs.YtdkboibnokipaaaDoor

namespace Go.Ow
open Go Go.RowKit Go.Pm
theorem fix_same {S : Dg} {i k : Nat} {s : ByteArray} (h : ∀ x, S (i, k, x) = none) : fixS S i k s = s := by
 refine ba_ext2 (size_fix _ _ _ _) fun x hx => ?_
 rw [size_fix] at hx
 show (fixL S i k s).getD x 0 = _
 unfold fixL
 rw [List.getD_eq_getElem?_getD, List.getElem?_map, List.getElem?_range hx]
 show fixB S (i, k, x) _ = _
 unfold fixB
 rw [h]
theorem fix_cut {a : Pl} {d : Int} {s : ByteArray} (hx : a.2.2 < s.size) : fixS (oneD a d) a.1 a.2.1 s = s.extract 0 a.2.2 ++ ⟨#[UInt8.ofNat (48 + d.toNat)]⟩ ++ s.extract (a.2.2 + 1) s.size := by
 have hl := bytes_len s
 apply Go.Proofs.YtdkboibnokipaaaDoor.ba_ext
 rw [ByteArray.data_append, ByteArray.data_append, Array.toList_append, Array.toList_append, Lib.extract_from_zero, Lib.extract_to_end]
 show fixL (oneD a d) a.1 a.2.1 s = s.data.toList.take a.2.2 ++ [UInt8.ofNat (48 + d.toNat)] ++ s.data.toList.drop (a.2.2 + 1)
 unfold fixL
 apply List.ext_getElem?
 intro y
 rw [List.getElem?_map, List.append_assoc]
 by_cases h1 : y < s.size
 ·rw [List.getElem?_range h1]
  show some (fixB (oneD a d) (a.1, a.2.1, y) (s.data.toList.getD y 0)) = _
  unfold fixB oneD updD
  have hg : s.data.toList[y]? = some (s.data.toList.getD y 0) := by
   rw [List.getD_eq_getElem?_getD, List.getElem?_eq_getElem (by omega)]; rfl
  by_cases e : y = a.2.2
  ·subst e
   rw [if_pos rfl, List.getElem?_append_right (by rw [List.length_take]; omega), List.length_take, show a.2.2 - min a.2.2 s.data.toList.length = 0 by omega]
   rfl
  ·rw [if_neg (fun h => e (by rw [← h]))]
   by_cases h2 : y < a.2.2
   ·rw [List.getElem?_append_left (by rw [List.length_take]; omega), List.getElem?_take, if_pos h2, hg]
   ·rw [List.getElem?_append_right (by rw [List.length_take]; omega), List.length_take, List.singleton_append, show y - min a.2.2 s.data.toList.length = (y - a.2.2 - 1) + 1 by omega, List.getElem?_cons_succ, List.getElem?_drop, show a.2.2 + 1 + (y - a.2.2 - 1) = y by omega, hg]
 ·rw [List.getElem?_eq_none (by rw [List.length_range]; omega)]
  symm
  rw [Option.map_none, List.getElem?_eq_none]
  simp only [List.length_append, List.length_take, List.length_drop, List.length_cons, List.length_nil]
  omega
def rowF (r : List ByteArray) : TV := .sl (r.map .str) r.length false
def pgF (p : Pg) : TV := .sl (p.map rowF) p.length false
theorem pgF_R (p : Pg) : pgR (pgF p) p := .inr ⟨_, false, rfl, List.length_map _, fun k r t hr ht => by
 rw [List.getElem?_map, hr] at ht
 cases ht
 exact .inr ⟨false, rfl⟩⟩
theorem page_rows2 {s : TV} {p : Pg} (hs : pgR s p) (hok : shpOk p) : ∃ rs f, s = .sl rs p.length f ∧ rs.length = p.length ∧ ∀ (k : Nat) (r : List ByteArray) (t : TV), p[k]? = some r → rs[k]? = some t → ∃ g, t = .sl (r.map .str) r.length g := by
 have hvl := hok.1
 rcases hs with ⟨_, rfl⟩ | ⟨rs, f, h1, h2, h3⟩
 ·simp at hvl
 ·refine ⟨rs, f, h1, h2, fun k r t hr ht => ?_⟩
  have hk := (List.getElem?_eq_some_iff.1 hr).1
  have := (hok.2.1 k hk).1
  have e : rowA p k = r := by unfold rowA; rw [List.getD_eq_getElem?_getD, hr]; rfl
  rw [e] at this
  rcases h3 k r t hr ht with ⟨_, rfl⟩ | ⟨g, e⟩
  ·simp at this
  ·exact ⟨g, e⟩
end Go.Ow
namespace Go.Proofs.YtdkboibnokipaaaDoor
open Go.RowKit Go.Pm Go.Ow
theorem rWithG_c {s : TV} {p : Pg} (hs : pgR s p) (hok : shpOk p) (ar ac ax v : Int) (S : Dg)
  (hS : ∀ i k (e : ByteArray), i < p.length → k < (rowA p i).length → entA (rowA p i) k = e → ((i : Int) = ar ∧ (k : Int) = ac ∧ ∃ x : Nat, ax = x ∧ x < e.size ∧ fixS S i k e = e.extract 0 x ++ strOfNums [v] ++ e.extract (x + 1) e.size) ∨ (¬ ((i : Int) = ar ∧ (k : Int) = ac) ∧ fixS S i k e = e)) :
  PCalls Tryd.prog 37 [s, .agg [.int .i64 ar, .int .i64 ac, .int .i64 ax], .int .u8 v] (pgF (fixP S p)) := by
 obtain ⟨rs, f, rfl, hrl, hrs⟩ := page_rows2 hs hok
 have hpl := hok.1
 refine pcalls_by Tryd.mixes (Spec.gdt_ok noSpec_ok) (fn := Tryd.f37) Tryd.func37 rfl (by kernel_rfl) (by show 3 ≤ _; decide) ?_
 simp +decide -implicitDefEqProofs (maxSteps := 4000000) only [go_sem, Tryd.f37]
 refine pwpC_loopU (A := { i : Nat // i ≤ p.length }) [0, 2, 4] (fun i => [(8, .t (.int .i64 i.1)), (7, .own (((fixP S p).take i.1).map rowF) i.1 1)]) (fun i => [(1, .tok i.1 41)]) (fun i => p.length - i.1) ⟨0, by omega⟩ (by decide) (fun _ => by rfl) ?_ fun Q1 hQ1 ⟨i, hi⟩ I1 hI1 => ?_
 ·simp +decide -implicitDefEqProofs (maxSteps := 4000000) only [go_sem, List.take_zero, List.map_nil]
 ·by_cases hlt : (i : Int) < p.length
  ·obtain ⟨r, hr⟩ : ∃ r, p[i]? = some r := ⟨_, List.getElem?_eq_getElem (by omega)⟩
   obtain ⟨t, ht⟩ : ∃ t, rs[i]? = some t := ⟨_, List.getElem?_eq_getElem (by omega)⟩
   obtain ⟨g1, rfl⟩ := hrs i r t hr ht
   have er : rowA p i = r := by unfold rowA; rw [List.getD_eq_getElem?_getD, hr]; rfl
   have hrow := hok.2.1 i (by omega)
   rw [er] at hrow
   have d1 := tv_at ht
   have hk1 := Go.Pm.wS (k := i) (by omega)
   simp +decide -implicitDefEqProofs (maxSteps := 4000000) only [go_sem, hlt]
   refine pwpC_loopU (A := { k : Nat // k ≤ r.length }) [0, 2, 4, 7, 8] (fun k => [(10, .t (.int .i64 k.1)), (9, .own (((fixR S i r).take k.1).map .str) k.1 2)]) (fun k => [(2, .tok k.1 9)]) (fun k => r.length - k.1) ⟨0, by omega⟩ (by decide) (fun _ => by rfl) ?_ fun Q2 hQ2 ⟨k, hk⟩ I2 hI2 => ?_
   ·simp +decide -implicitDefEqProofs (maxSteps := 4000000) only [go_sem, List.take_zero, List.map_nil]
   ·by_cases hlt2 : (k : Int) < r.length
    ·obtain ⟨x, hx⟩ : ∃ x, r[k]? = some x := ⟨_, List.getElem?_eq_getElem (by omega)⟩
     have dx := txs_at hx
     have ex : entA r k = x := by unfold entA; rw [List.getD_eq_getElem?_getD, hx]; rfl
     have hxs := hok.2.2 i k (by omega) (by rw [er]; omega)
     rw [er, ex] at hxs
     have hk2 := Go.Pm.wS (k := k) (by omega)
     have hfx := fixR_at S i r k (by omega)
     rw [ex] at hfx
     have hrw : (k + 1) * 16 ≤ 140737488355328 := by omega
     have hll2 : (((fixR S i r).take k).map TV.str).length = k := by rw [List.length_map, List.length_take, fixR_len]; omega
     rcases hS i k x (by omega) (by rw [er]; omega) (by rw [er, ex]) with ⟨e1, e2, y, e3, hy, hf⟩ | ⟨hne, hf⟩
     ·subst e1 e2 e3
      have c1 : ((i : Int) == (i : Int)) = true := by simp
      have hy1 : (y : Int) ≤ x.size := by omega
      have hy2 := Go.Pm.wS (k := y) (by omega)
      have hy3 : ((y + 1 : Nat) : Int) ≤ x.size := by omega
      have hz1 : (x.extract 0 y).size + (strOfNums [v]).size ≤ 4294967296 := by
       have : (strOfNums [v]).size = 1 := rfl
       rw [ByteArray.size_extract, this]; omega
      have hz2 : (x.extract 0 y).size + (strOfNums [v]).size + (x.extract (y + 1) x.size).size ≤ 4294967296 := by
       have : (strOfNums [v]).size = 1 := rfl
       rw [ByteArray.size_extract, ByteArray.size_extract, this]; omega
      simp +decide -implicitDefEqProofs (maxSteps := 4000000) only [go_sem, hlt, d1, hlt2, dx, hy1, hy2, hy3, hz1, hz2, hrw, hll2, Nat.mul_one]
      refine hI2 _ ⟨k + 1, by omega⟩ (by simp only; omega) ?_
      simp +decide -implicitDefEqProofs (maxSteps := 4000000) only [go_sem, hk2, hfx, hf, List.map_append, List.map_cons, List.map_nil]
     ·by_cases e1 : (i : Int) = ar
      ·have e2 : ((k : Int) == ac) = false := by
        rw [beq_eq_false_iff_ne]; exact fun h => hne ⟨e1, h⟩
       subst e1
       simp +decide -implicitDefEqProofs (maxSteps := 4000000) only [go_sem, hlt, d1, hlt2, dx, e2, hrw, hll2, Nat.mul_one]
       refine hI2 _ ⟨k + 1, by omega⟩ (by simp only; omega) ?_
       simp +decide -implicitDefEqProofs (maxSteps := 4000000) only [go_sem, hk2, hfx, hf, List.map_append, List.map_cons, List.map_nil]
      ·have e2 : ((i : Int) == ar) = false := by
        rw [beq_eq_false_iff_ne]; exact e1
       simp +decide -implicitDefEqProofs (maxSteps := 4000000) only [go_sem, hlt, d1, hlt2, dx, e2, hrw, hll2, Nat.mul_one]
       refine hI2 _ ⟨k + 1, by omega⟩ (by simp only; omega) ?_
       simp +decide -implicitDefEqProofs (maxSteps := 4000000) only [go_sem, hk2, hfx, hf, List.map_append, List.map_cons, List.map_nil]
    ·have hke : k = r.length := by omega
     subst hke
     have hfx := fixP_at S p i (by omega)
     rw [er] at hfx
     have htk : (fixR S i r).take r.length = fixR S i r := List.take_of_length_le (by rw [fixR_len]; exact Nat.le_refl _)
     have hr0 : ¬ r.length = 0 := by omega
     have hrv : rowF (fixR S i r) = .sl ((fixR S i r).map .str) r.length false := by unfold rowF; rw [fixR_len]
     have hrw : (i + 1) * 24 ≤ 140737488355328 := by omega
     have hll2 : (((fixP S p).take i).map rowF).length = i := by rw [List.length_map, List.length_take, fixP_len]; omega
     simp +decide -implicitDefEqProofs (maxSteps := 4000000) only [go_sem, hlt, d1, hlt2, Nat.mul_one]
     refine hQ2 _ _ ?_
     simp +decide -implicitDefEqProofs (maxSteps := 4000000) only [go_sem, htk, hr0, hrw, hll2, Nat.mul_one]
     refine hI1 _ ⟨i + 1, by omega⟩ (by simp only; omega) ?_
     simp +decide -implicitDefEqProofs (maxSteps := 4000000) only [go_sem, hk1, hfx, List.map_append, List.map_cons, List.map_nil, hrv]
  ·have hie : i = p.length := by omega
   subst hie
   have htk : (fixP S p).take p.length = fixP S p := List.take_of_length_le (by rw [fixP_len]; exact Nat.le_refl _)
   have hp0 : ¬ p.length = 0 := by omega
   have hpg : pgF (fixP S p) = .sl ((fixP S p).map rowF) p.length false := by unfold pgF; rw [fixP_len]
   simp +decide -implicitDefEqProofs (maxSteps := 4000000) only [go_sem, hlt]
   refine hQ1 _ _ ?_
   simp +decide -implicitDefEqProofs (maxSteps := 4000000) only [go_sem, htk, hp0, hpg]
theorem rWith_c {s : TV} {p : Pg} (hs : pgR s p) (hok : shpOk p) {a : Pl} (ha : inP p a) {d : Int} (hd : 0 ≤ d) : PCalls Tryd.prog 37 [s, plT a, .int .u8 (48 + d)] (pgF (setP p a d)) := by
 refine rWithG_c hs hok a.1 a.2.1 a.2.2 (48 + d) (oneD a d) fun i k e hi hk he => ?_
 by_cases hc : (i : Int) = (a.1 : Int) ∧ (k : Int) = (a.2.1 : Int)
 ·obtain ⟨h1, h2⟩ := hc
  have h1' : i = a.1 := by omega
  have h2' : k = a.2.1 := by omega
  subst h1' h2'
  refine .inl ⟨h1, h2, a.2.2, rfl, by rw [← he]; exact ha.2.2, ?_⟩
  rw [fix_cut (by rw [← he]; exact ha.2.2)]
  have : strOfNums [48 + d] = ⟨#[UInt8.ofNat (48 + d.toNat)]⟩ := by
   unfold strOfNums
   rw [List.map_cons, List.map_nil, show (48 + d).toNat = 48 + d.toNat by omega]
  rw [this]
 ·refine .inr ⟨hc, fix_same fun x => ?_⟩
  unfold oneD updD
  rw [if_neg fun e => hc (by rw [← e]; exact ⟨rfl, rfl⟩)]
end Go.Proofs.YtdkboibnokipaaaDoor

namespace Go.Ow
open Go Go.RowKit Go.Pm
end Go.Ow
namespace Go.Proofs.YtdkboibnokipaaaDoor
open Go.RowKit Go.Pm Go.Ow
end Go.Proofs.YtdkboibnokipaaaDoor

namespace Go.Proofs.YtdkboibnokipaaaDoor
open Go.RowKit Go.Pm Go.Ow
end Go.Proofs.YtdkboibnokipaaaDoor

namespace Go.Ow
open Go Go.RowKit Go.Pm
def dryN (s : ByteArray) : Nat → Int
 | 0 => 0
 | n + 1 => 10 * dryN s n + (((s.data.toList.getD n 0).toNat : Int) - 48)
theorem dry_ent {s : ByteArray} (hl : lostC s = 0) (i k : Nat) : ∀ n, n ≤ s.size → entN (fun _ => none) i k s n = dryN s n
 | 0, _ => rfl
 | n + 1, h => by
  have hb := bytes_len s
  unfold entN dryN
  rw [dry_ent hl i k n (by omega)]
  congr 1
  unfold digB
  rw [if_neg]
  intro e
  unfold lostC at hl
  rw [List.count_eq_zero] at hl
  refine hl ?_
  rw [← e, List.getD_eq_getElem?_getD, List.getElem?_eq_getElem (by omega)]
  exact List.getElem_mem _
end Go.Ow
namespace Go.Proofs.YtdkboibnokipaaaDoor
open Go.RowKit Go.Pm Go.Ow
end Go.Proofs.YtdkboibnokipaaaDoor

namespace Go.Proofs.YtdkboibnokipaaaDoor
open Go.RowKit Go.Pm Go.Ow
def baL (l : List UInt8) : ByteArray := ⟨l.toArray⟩
theorem allO_ts (cs : List TV) : allO ((cs.map PV.t).map PV.toT) = some cs := by
 induction cs with
 | nil => rfl
 | cons c cs ih => simp only [List.map_cons, allO, PV.toT, ih, Option.map_some]
section
variable (g : FuncId) (xs : List TV) (ps : List PV) (hl : List PO) (Y : YS) (t : TypeId)
end
end Go.Proofs.YtdkboibnokipaaaDoor

namespace Go.Proofs.YtdkboibnokipaaaDoor
open Go.RowKit Go.Pm Go.Ow
theorem baL_app (l : List UInt8) (x : ByteArray) : baL l ++ x = baL (l ++ x.data.toList) := by
 apply ba_ext
 rw [ByteArray.data_append, Array.toList_append]; rfl
end Go.Proofs.YtdkboibnokipaaaDoor

namespace Go.Proofs.YtdkboibnokipaaaDoor
open Go.RowKit Go.Pm Go.Ow
def smallP (p : List (List ByteArray)) : Prop := p.length ≤ 140737488355328 ∧ ∀ l ∈ p, l.length ≤ 140737488355328
open Classical in
noncomputable def rSmT : List TV → Option TV
 | [s, t] => if h : ∃ p q, pgR s p ∧ pgR t q ∧ smallP p then some (.bool (decide (Classical.choose h = Classical.choose (Classical.choose_spec h)))) else none
 | _ => none
open Classical in
theorem rSmT_of {s t : TV} {p q : List (List ByteArray)} (h1 : pgR s p) (h2 : pgR t q) (hl : smallP p) : rSmT [s, t] = some (.bool (decide (p = q))) := by
 have h : ∃ p q, pgR s p ∧ pgR t q ∧ smallP p := ⟨p, q, h1, h2, hl⟩
 have hs := Classical.choose_spec (Classical.choose_spec h)
 have e1 := pgR_inj hs.1 h1
 have e2 := pgR_inj hs.2.1 h2
 show (if h : ∃ p q, pgR s p ∧ pgR t q ∧ smallP p then some (TV.bool (decide (Classical.choose h = Classical.choose (Classical.choose_spec h)))) else none) = _
 rw [dif_pos h]
 have : decide (Classical.choose h = Classical.choose (Classical.choose_spec h)) = decide (p = q) := decide_eq_decide.2 ⟨fun e => e1.symm.trans (e.trans e2), fun e => e1.trans (e.trans e2.symm)⟩
 rw [this]
open Classical in
theorem rSmT_ok : ∀ a r, rSmT a = some r → PCalls Tryd.prog 16 a r := by
 intro a r e
 unfold rSmT at e
 split at e
 ·split at e
  ·rename_i h
   cases e
   have hs := Classical.choose_spec (Classical.choose_spec h)
   exact rSamePages_c hs.1 hs.2.1 hs.2.2.1 hs.2.2.2
  ·cases e
 ·cases e
theorem valid_small {p : List (List ByteArray)} (h : validB p = true) : smallP p := ⟨by have := (valid_len h).1; omega, fun l hl => by have := (valid_mem h hl).1; omega⟩
end Go.Proofs.YtdkboibnokipaaaDoor

namespace Go.Ow
open Go Go.RowKit Go.Pm
end Go.Ow

namespace Go.Proofs.YtdkboibnokipaaaDoor
open Go.RowKit Go.Pm Go.Ow
theorem get_ts {cs : List TV} {i : Nat} {v : TV} (h : cs[i]? = some v) : (cs.map PV.t)[i]? = some (.t v) := by rw [List.getElem?_map, h]; rfl
end Go.Proofs.YtdkboibnokipaaaDoor

namespace Go.Proofs.YtdkboibnokipaaaDoor
open Go.RowKit Go.Pm Go.Ow
end Go.Proofs.YtdkboibnokipaaaDoor

namespace Go.Ow
open Go Go.RowKit Go.Pm
end Go.Ow
namespace Go.Proofs.YtdkboibnokipaaaDoor
open Go.RowKit Go.Pm Go.Ow
def wInP (x : TV × TV × Int) (y : Pg × Pl) : Prop := pgR x.1 y.1 ∧ shpOk y.1 ∧ x.2.1 = plT y.2 ∧ inP y.1 y.2 ∧ 48 ≤ x.2.2
open Classical in
noncomputable def rWithT : List TV → Option TV
 | [t, pl, .int .u8 v] => if h : ∃ y, wInP (t, pl, v) y then some (pgF (setP (Classical.choose h).1 (Classical.choose h).2 (v - 48))) else none
 | _ => none
open Classical in
theorem rWithT_of {t : TV} {q : Pg} {a : Pl} {d : Int} (h1 : pgR t q) (h2 : shpOk q) (h3 : inP q a) (h4 : 0 ≤ d) : rWithT [t, .agg [.int .i64 a.1, .int .i64 a.2.1, .int .i64 a.2.2], .int .u8 (48 + d)] = some (pgF (setP q a d)) := by
 have h : ∃ y, wInP (t, plT a, 48 + d) y := ⟨(q, a), h1, h2, rfl, h3, by show 48 ≤ 48 + d; omega⟩
 show (if h : ∃ y, wInP (t, plT a, 48 + d) y then some (pgF (setP (Classical.choose h).1 (Classical.choose h).2 (48 + d - 48))) else none) = _
 rw [dif_pos h]
 have hs := Classical.choose_spec h
 have e1 : (Classical.choose h).1 = q := pgR_inj hs.1 h1
 have e2 : (Classical.choose h).2 = a := (plT_inj hs.2.2.1).symm
 rw [e1, e2, show 48 + d - 48 = d by omega]
open Classical in
theorem rWithT_ok : ∀ xs r, rWithT xs = some r → PCalls Tryd.prog 37 xs r := by
 intro xs r h
 unfold rWithT at h
 split at h
 ·rename_i t pl v
  split at h
  ·rename_i hx
   cases h
   have hs := Classical.choose_spec hx
   obtain ⟨h1, h2, h3, h4, h5⟩ := hs
   have h5 : 48 ≤ v := h5
   have := rWith_c h1 h2 h4 (d := v - 48) (by omega)
   rw [show 48 + (v - 48) = v by omega] at this
   have h3' : pl = plT (Classical.choose hx).2 := h3
   rw [← h3'] at this
   exact this
  ·cases h
 ·cases h
end Go.Proofs.YtdkboibnokipaaaDoor

namespace Go.Ow
open Go Go.RowKit Go.Pm
theorem byte_inj {d e : Int} (h0 : 0 ≤ d) (h9 : d ≤ 9) (k0 : 0 ≤ e) (k9 : e ≤ 9) (h : UInt8.ofNat (48 + d.toNat) = UInt8.ofNat (48 + e.toNat)) : d = e := by
 have h1 := byte_nat h0 (show d ≤ 15 by omega)
 have h2 := byte_nat k0 (show e ≤ 15 by omega)
 rw [h] at h1
 omega
theorem read_by {p : Pg} {g : List Int} (hg : g ∈ readG p) {j : Nat} {a : Pl} (ha : (placesP p)[j]? = some a) : byA (fixP (asgD (placesP p) g) p) a = UInt8.ofNat (48 + (g.getD j 0).toNat) := by
 rw [readG_eq] at hg
 have hc := mem_cands.1 (List.mem_filter.1 hg).1
 have hm := mem_places_iff.1 (List.mem_of_getElem? ha)
 rw [fix_by _ _ hm.1]
 unfold fixB
 rw [asg_get (places_nodup p) hc.1 ha]
theorem sureD_at {ys : List (List Int)} {L : List Pl} (hn : L.Nodup) {j : Nat} {a : Pl} (ha : L[j]? = some a) : ∀ m, m ≤ L.length → sureD ys L m a = if j < m ∧ sureB ys j = true then some ((lastY ys).getD j 0) else none
 | 0, _ => by rw [if_neg (by omega)]; rfl
 | m + 1, hm => by
  have ih := sureD_at (ys := ys) hn ha m (by omega)
  obtain ⟨b, hb⟩ : ∃ b, L[m]? = some b := ⟨_, List.getElem?_eq_getElem (by omega)⟩
  have hgb : L.getD m (0, 0, 0) = b := by rw [List.getD_eq_getElem?_getD, hb]; rfl
  have hne : j ≠ m → a ≠ b := fun h e => by
   have hj := (List.getElem?_eq_some_iff.1 ha)
   have hk := (List.getElem?_eq_some_iff.1 hb)
   have hp := List.pairwise_iff_getElem.1 hn
   obtain ⟨j1, j2⟩ := hj
   obtain ⟨k1, k2⟩ := hk
   rcases Nat.lt_or_gt_of_ne h with hl | hl
   ·exact hp j m j1 k1 hl (j2.trans (e.trans k2.symm))
   ·exact hp m j k1 j1 hl (k2.trans (e.symm.trans j2.symm))
  unfold sureD
  by_cases hs : sureB ys m = true
  ·rw [if_pos hs, hgb]
   unfold updD
   by_cases e : j = m
   ·subst e
    rw [ha] at hb
    cases hb
    rw [if_pos rfl, if_pos ⟨by omega, hs⟩]
   ·rw [if_neg (hne e), ih]
    by_cases h2 : j < m ∧ sureB ys j = true
    ·rw [if_pos h2, if_pos ⟨by omega, h2.2⟩]
    ·rw [if_neg h2, if_neg fun h => h2 ⟨by omega, h.2⟩]
  ·rw [if_neg hs, ih]
   by_cases e : j = m
   ·subst e
    rw [if_neg (by omega), if_neg fun h => hs h.2]
   ·by_cases h2 : j < m ∧ sureB ys j = true
    ·rw [if_pos h2, if_pos ⟨by omega, h2.2⟩]
    ·rw [if_neg h2, if_neg fun h => h2 ⟨by omega, h.2⟩]
theorem rest_at {p : Pg} {j : Nat} {a : Pl} (ha : (placesP p)[j]? = some a) : byA (restP p) a = if sureB (readG p) j = true then UInt8.ofNat (48 + ((lastY (readG p)).getD j 0).toNat) else 63 := by
 have hm := mem_places_iff.1 (List.mem_of_getElem? ha)
 have hj := (List.getElem?_eq_some_iff.1 ha).1
 unfold restP
 rw [fix_by _ _ hm.1]
 unfold fixB
 rw [sureD_at (places_nodup p) ha _ (Nat.le_refl _)]
 by_cases h : sureB (readG p) j = true
 ·rw [if_pos ⟨hj, h⟩, if_pos h]
 ·rw [if_neg fun x => h x.2, if_neg h, hm.2]
theorem sureD_out {ys : List (List Int)} {L : List Pl} {a : Pl} (ha : a ∉ L) : ∀ m, m ≤ L.length → sureD ys L m a = none
 | 0, _ => rfl
 | m + 1, hm => by
  have hne : a ≠ L.getD m (0, 0, 0) := fun e => ha (by
   rw [e, List.getD_eq_getElem?_getD, List.getElem?_eq_getElem (by omega)]; exact List.getElem_mem _)
  unfold sureD
  split
  ·unfold updD
   rw [if_neg hne]
   exact sureD_out ha m (by omega)
  ·exact sureD_out ha m (by omega)
theorem rest_known {p : Pg} {a : Pl} (ha : inP p a) (hne : byA p a ≠ 63) : byA (restP p) a = byA p a := by
 unfold restP
 rw [fix_by _ _ ha]
 unfold fixB
 rw [sureD_out (fun h => hne (mem_places_iff.1 h).2) _ (Nat.le_refl _)]
theorem rest_shp (p : Pg) : shp (restP p) = shp p := fix_shp _ _
end Go.Ow

namespace Go.Proofs.YtdkboibnokipaaaDoor
open Go.RowKit Go.Pm Go.Ow
noncomputable def wkRestT : List TV → Option TV := onPage fun p => if validB p = true then restT p else .tup [.nilSl, .int .i64 0, .int .i64 90]
theorem wkRestT_ok : ∀ a r, wkRestT a = some r → PCalls Tryd.prog 14 a r := onPage_ok fun s p h => by
 by_cases hv : validB p = true
 ·rw [if_pos hv]; exact wRestore_c h hv
 ·rw [if_neg hv]; exact wRestoreN_c h (by simpa using hv)
theorem wkRestT_of {s : TV} {p : Pg} (h : pgR s p) : wkRestT [s] = some (if validB p = true then restT p else .tup [.nilSl, .int .i64 0, .int .i64 90]) := onPage_of h
theorem rLike_c {s t : TV} {x y : Pg} (hs : pgR s x) (ht : pgR t y) (hok : shpOk x) (hsh : shp y = shp x) (h : ∀ a, inP x a → byA x a ≠ 63 → byA x a = byA y a) : PCalls Tryd.prog 36 [s, t] (.bool true) := by
 obtain ⟨rs, f, rfl, hrl, hrs⟩ := page_rows2 hs hok
 obtain ⟨qs, g, rfl, hql, hqs⟩ := page_rows2 ht ((shpOk_iff hsh).2 hok)
 have hpl := hok.1
 have hyl := shp_len hsh
 rw [hyl] at hql ⊢
 have hrow : ∀ i, i < x.length → ∃ r q g1 g2, x[i]? = some r ∧ rs.drop i = .sl (r.map .str) r.length g1 :: rs.drop (i + 1) ∧ qs.drop i = .sl (q.map .str) r.length g2 :: qs.drop (i + 1) ∧ rowA x i = r ∧ rowA y i = q ∧ q.length = r.length ∧ r.length ≤ 5 := fun i hi => by
  obtain ⟨r, hr⟩ : ∃ r, x[i]? = some r := ⟨_, List.getElem?_eq_getElem hi⟩
  obtain ⟨q, hq⟩ : ∃ q, y[i]? = some q := ⟨_, List.getElem?_eq_getElem (by omega)⟩
  obtain ⟨t1, h1⟩ : ∃ t, rs[i]? = some t := ⟨_, List.getElem?_eq_getElem (by omega)⟩
  obtain ⟨t2, h2⟩ : ∃ t, qs[i]? = some t := ⟨_, List.getElem?_eq_getElem (by omega)⟩
  obtain ⟨g1, rfl⟩ := hrs i r t1 hr h1
  obtain ⟨g2, rfl⟩ := hqs i q t2 hq h2
  have e1 : rowA x i = r := by unfold rowA; rw [List.getD_eq_getElem?_getD, hr]; rfl
  have e2 : rowA y i = q := by unfold rowA; rw [List.getD_eq_getElem?_getD, hq]; rfl
  have hl := shp_rowl hsh i
  rw [e1, e2] at hl
  have := (hok.2.1 i hi).1.2
  rw [e1] at this
  have d2 := tv_at h2
  rw [hl] at d2
  exact ⟨r, q, g1, g2, hr, tv_at h1, d2, e1, e2, hl, this⟩
 refine pcalls_by Tryd.mixes (Spec.gdt_ok noSpec_ok) (fn := Tryd.f36) Tryd.func36 rfl (by kernel_rfl) (by show 2 ≤ _; decide) ?_
 simp +decide -implicitDefEqProofs (maxSteps := 4000000) only [go_sem, Tryd.f36, bne_self_eq_false]
 refine pwpC_loopU (A := { i : Nat // i ≤ x.length }) [0, 1] (fun i => [(5, .t (.int .i64 i.1))]) (fun _ => []) (fun i => x.length - i.1) ⟨0, by omega⟩ (by decide) (fun _ => by rfl) ?_ fun Q1 hQ1 ⟨i, hi⟩ I1 hI1 => ?_
 ·simp +decide -implicitDefEqProofs (maxSteps := 4000000) only [go_sem]
 ·by_cases hlt : (i : Int) < x.length
  ·obtain ⟨r, q, g1, g2, hr, d1, d2, e1, e2, hl, hr5⟩ := hrow i (by omega)
   have hk1 := Go.Pm.wS (k := i) (by omega)
   simp +decide -implicitDefEqProofs (maxSteps := 4000000) only [go_sem, hlt, d1, d2, bne_self_eq_false, Nat.mul_one]
   refine pwpC_loopU (A := { k : Nat // k ≤ r.length }) [0, 1, 5] (fun k => [(6, .t (.int .i64 k.1))]) (fun _ => []) (fun k => r.length - k.1) ⟨0, by omega⟩ (by decide) (fun _ => by rfl) ?_ fun Q2 hQ2 ⟨k, hk⟩ I2 hI2 => ?_
   ·simp +decide -implicitDefEqProofs (maxSteps := 4000000) only [go_sem]
   ·by_cases hlt2 : (k : Int) < r.length
    ·obtain ⟨a, ha⟩ : ∃ a, r[k]? = some a := ⟨_, List.getElem?_eq_getElem (by omega)⟩
     obtain ⟨b, hb⟩ : ∃ b, q[k]? = some b := ⟨_, List.getElem?_eq_getElem (by omega)⟩
     have dx := txs_at ha
     have dy := txs_at hb
     have ea : entA r k = a := by unfold entA; rw [List.getD_eq_getElem?_getD, ha]; rfl
     have eb : entA q k = b := by unfold entA; rw [List.getD_eq_getElem?_getD, hb]; rfl
     have hsz := shp_size hsh i k
     rw [e1, e2, ea, eb] at hsz
     have hs5 := hok.2.2 i k (by omega) (by rw [e1]; omega)
     rw [e1, ea] at hs5
     have hk2 := Go.Pm.wS (k := k) (by omega)
     simp +decide -implicitDefEqProofs (maxSteps := 4000000) only [go_sem, hlt, d1, d2, hlt2, dx, dy, hsz, bne_self_eq_false, Nat.mul_one]
     refine pwpC_loopU (A := { j : Nat // j ≤ a.size }) [0, 1, 5, 6] (fun j => [(7, .t (.int .i64 j.1))]) (fun _ => []) (fun j => a.size - j.1) ⟨0, by omega⟩ (by decide) (fun _ => by rfl) ?_ fun Q3 hQ3 ⟨j, hj⟩ I3 hI3 => ?_
     ·simp +decide -implicitDefEqProofs (maxSteps := 4000000) only [go_sem]
     ·by_cases hlt3 : (j : Int) < a.size
      ·obtain ⟨u, hu⟩ : ∃ u, a.data.getD j 0 = u := ⟨_, rfl⟩
       obtain ⟨v, hvv⟩ : ∃ v, b.data.getD j 0 = v := ⟨_, rfl⟩
       have hk3 := Go.Pm.wS (k := j) (by omega)
       have hin : inP x (i, k, j) := ⟨by simp only; omega, by simp only; rw [e1]; omega, by simp only; rw [e1, ea]; omega⟩
       have hh := h (i, k, j) hin
       unfold byA at hh
       simp only at hh
       rw [e1, e2, ea, eb] at hh
       have g3 : ∀ z : ByteArray, z.data.toList.getD j 0 = z.data.getD j 0 := fun z => by simp
       rw [g3, g3, hu, hvv] at hh
       by_cases hq : u = 63
       ·have c1 : ((u.toNat : Int) != 63) = false := by rw [hq]; rfl
        simp +decide -implicitDefEqProofs (maxSteps := 4000000) only [go_sem, hlt, d1, d2, hlt2, dx, dy, hlt3, hu, c1, Nat.mul_one]
        refine hI3 _ ⟨j + 1, by omega⟩ (by simp only; omega) ?_
        simp +decide -implicitDefEqProofs (maxSteps := 4000000) only [go_sem, hk3]
       ·have c1 : ((u.toNat : Int) != 63) = true := by
         have : ¬ (u.toNat : Int) = 63 := fun e => hq (UInt8.toNat_inj.1 (show u.toNat = 63 by omega))
         simpa using this
        have huv := hh hq
        rw [← huv] at hvv
        have hlt4 : (j : Int) < b.size := by omega
        simp +decide -implicitDefEqProofs (maxSteps := 4000000) only [go_sem, hlt, d1, d2, hlt2, dx, dy, hlt3, hlt4, hsz, hu, hvv, c1, bne_self_eq_false, Nat.mul_one]
        refine hI3 _ ⟨j + 1, by omega⟩ (by simp only; omega) ?_
        simp +decide -implicitDefEqProofs (maxSteps := 4000000) only [go_sem, hk3]
      ·have hje : j = a.size := by omega
       subst hje
       simp +decide -implicitDefEqProofs (maxSteps := 4000000) only [go_sem, hlt, d1, d2, hlt2, dx, dy, hlt3, Nat.mul_one]
       refine hQ3 _ _ ?_
       simp +decide -implicitDefEqProofs (maxSteps := 4000000) only [go_sem]
       refine hI2 _ ⟨k + 1, by omega⟩ (by simp only; omega) ?_
       simp +decide -implicitDefEqProofs (maxSteps := 4000000) only [go_sem, hk2]
    ·have hke : k = r.length := by omega
     subst hke
     simp +decide -implicitDefEqProofs (maxSteps := 4000000) only [go_sem, hlt, d1, d2, hlt2, Nat.mul_one]
     refine hQ2 _ _ ?_
     simp +decide -implicitDefEqProofs (maxSteps := 4000000) only [go_sem]
     refine hI1 _ ⟨i + 1, by omega⟩ (by simp only; omega) ?_
     simp +decide -implicitDefEqProofs (maxSteps := 4000000) only [go_sem, hk1]
  ·have hie : i = x.length := by omega
   subst hie
   simp +decide -implicitDefEqProofs (maxSteps := 4000000) only [go_sem, hlt]
   refine hQ1 _ _ ?_
   simp +decide -implicitDefEqProofs (maxSteps := 4000000) only [go_sem]
def likeIn (s t : TV) (z : Pg × Pg) : Prop := pgR s z.1 ∧ pgR t z.2 ∧ shpOk z.1 ∧ shp z.2 = shp z.1 ∧ ∀ a, inP z.1 a → byA z.1 a ≠ 63 → byA z.1 a = byA z.2 a
open Classical in
noncomputable def rLikeT : List TV → Option TV
 | [s, t] => if ∃ z, likeIn s t z then some (.bool true) else none
 | _ => none
open Classical in
theorem rLikeT_of {s t : TV} {x y : Pg} (hs : pgR s x) (ht : pgR t y) (hok : shpOk x) (hsh : shp y = shp x) (h : ∀ a, inP x a → byA x a ≠ 63 → byA x a = byA y a) : rLikeT [s, t] = some (.bool true) := by
 show (if ∃ z, likeIn s t z then some (TV.bool true) else none) = _
 rw [if_pos ⟨(x, y), hs, ht, hok, hsh, h⟩]
open Classical in
theorem rLikeT_ok : ∀ a r, rLikeT a = some r → PCalls Tryd.prog 36 a r := by
 intro a r h
 unfold rLikeT at h
 split at h
 ·split at h
  ·rename_i hx
   cases h
   obtain ⟨z, h1, h2, h3, h4, h5⟩ := hx
   exact rLike_c h1 h2 h3 h4 h5
  ·cases h
 ·cases h
end Go.Proofs.YtdkboibnokipaaaDoor

namespace Go.Ow
open Go Go.RowKit Go.Pm
def txtF : Nat → Nat → List UInt8
 | 0, _ => []
 | k + 1, n => if n < 10 then [UInt8.ofNat (48 + n)] else txtF k (n / 10) ++ [UInt8.ofNat (48 + n % 10)]
def txtB (n : Nat) : ByteArray := ⟨(txtF 5 n).toArray⟩
theorem dig_nat {d : Nat} (h : d < 10) : (UInt8.ofNat (48 + d)).toNat = 48 + d := by simp; omega
theorem txtF_ok : ∀ (k n : Nat), n < 10 ^ (k + 1) → (1 ≤ (txtF (k + 1) n).length ∧ (txtF (k + 1) n).length ≤ k + 1) ∧ (∀ b ∈ txtF (k + 1) n, digU b) ∧ (0 < n → ∃ b r, txtF (k + 1) n = b :: r ∧ b ≠ 48) ∧ (1 < (txtF (k + 1) n).length → 0 < n) ∧ (txtF (k + 1) n).foldl (fun a (b : UInt8) => 10 * a + ((b.toNat : Int) - 48)) 0 = (n : Int)
 | k, n, h => by
  by_cases h1 : n < 10
  ·have e : txtF (k + 1) n = [UInt8.ofNat (48 + n)] := by rw [txtF, if_pos h1]
   have hd := dig_nat h1
   rw [e]
   refine ⟨by simp, fun b hb => ?_, fun h0 => ⟨_, _, rfl, fun h48 => ?_⟩, fun h => by simp at h, ?_⟩
   ·rw [List.mem_singleton] at hb
    rw [hb]; unfold digU; omega
   ·rw [h48] at hd
    have : (48 : UInt8).toNat = 48 := rfl
    omega
   ·rw [List.foldl_cons, List.foldl_nil, hd]; omega
  ·have e : txtF (k + 1) n = txtF k (n / 10) ++ [UInt8.ofNat (48 + n % 10)] := by rw [txtF, if_neg h1]
   have hd := dig_nat (show n % 10 < 10 by omega)
   cases k with
   | zero => rw [Nat.zero_add, Nat.pow_one] at h; omega
   | succ k =>
    have hk : n / 10 < 10 ^ (k + 1) := by
     rw [Nat.pow_succ] at h
     exact Nat.div_lt_of_lt_mul (by rw [Nat.mul_comm]; exact h)
    obtain ⟨⟨l1, l2⟩, hb, hf, hp, hv⟩ := txtF_ok k (n / 10) hk
    rw [e]
    refine ⟨by rw [List.length_append, List.length_singleton]; omega, fun b hb2 => ?_, fun _ => ?_, fun _ => by omega, ?_⟩
    ·rcases List.mem_append.1 hb2 with hb2 | hb2
     ·exact hb b hb2
     ·rw [List.mem_singleton] at hb2
      rw [hb2]; unfold digU; omega
    ·obtain ⟨b, r, h1, h2⟩ := hf (by omega)
     exact ⟨b, r ++ [UInt8.ofNat (48 + n % 10)], by rw [h1]; rfl, h2⟩
    ·rw [List.foldl_append, hv, List.foldl_cons, List.foldl_nil, hd]; omega
theorem dry_fold (s : ByteArray) : ∀ k, k ≤ s.size → dryN s k = (s.data.toList.take k).foldl (fun a (b : UInt8) => 10 * a + ((b.toNat : Int) - 48)) 0
 | 0, _ => rfl
 | k + 1, h => by
  have hl := bytes_len s
  have e : s.data.toList[k]? = some (s.data.toList.getD k 0) := by rw [List.getD_eq_getElem?_getD, List.getElem?_eq_getElem (by omega)]; rfl
  rw [dryN, dry_fold s k (by omega), List.take_add_one, e, Option.toList_some, List.foldl_append]; rfl
theorem txtB_ok {n : Nat} (h : n < 100000) : (1 ≤ (txtB n).size ∧ (txtB n).size ≤ 5) ∧ (∀ x, x < (txtB n).size → digU ((txtB n).data.toList.getD x 0)) ∧ (1 < (txtB n).size → (txtB n).data.toList.getD 0 0 ≠ 48) ∧ dryN (txtB n) (txtB n).size = (n : Int) := by
 obtain ⟨h1, h2, h3, h4, h5⟩ := txtF_ok 4 n h
 have hs : (txtB n).size = (txtF 5 n).length := List.size_toArray
 have hd : (txtB n).data.toList = txtF 5 n := rfl
 rw [dry_fold _ _ (Nat.le_refl _), hs, hd]
 refine ⟨h1, fun x hx => ?_, fun h => ?_, ?_⟩
 ·refine h2 _ ?_
  rw [List.getD_eq_getElem?_getD, List.getElem?_eq_getElem hx]
  exact List.getElem_mem _
 ·obtain ⟨b, r, e1, e2⟩ := h3 (h4 h)
  rw [e1]; exact e2
 ·rw [List.take_of_length_le (Nat.le_refl _)]; exact h5
def mkPg (rows cols : Nat) (W : Nat → Nat → Nat) : Pg := (List.range rows).map fun r => (List.range cols).map fun c => txtB (W r c)
theorem mk_row {rows cols : Nat} {W : Nat → Nat → Nat} {i : Nat} (h : i < rows) : rowA (mkPg rows cols W) i = (List.range cols).map fun c => txtB (W i c) := by
 unfold rowA mkPg
 rw [List.getD_eq_getElem?_getD, List.getElem?_map, List.getElem?_range h]; rfl
theorem mk_ent {rows cols : Nat} {W : Nat → Nat → Nat} {i k : Nat} (h : i < rows) (hk : k < cols) : entA (rowA (mkPg rows cols W) i) k = txtB (W i k) := by
 rw [mk_row h]
 unfold entA
 rw [List.getD_eq_getElem?_getD, List.getElem?_map, List.getElem?_range hk]; rfl
theorem mk_len (rows cols : Nat) (W : Nat → Nat → Nat) : (mkPg rows cols W).length = rows := by unfold mkPg; rw [List.length_map, List.length_range]
theorem mk_rowl {rows cols : Nat} {W : Nat → Nat → Nat} {i : Nat} (h : i < rows) : (rowA (mkPg rows cols W) i).length = cols := by rw [mk_row h, List.length_map, List.length_range]
theorem mk_by {rows cols : Nat} {W : Nat → Nat → Nat} (hW : ∀ r c, r < rows → c < cols → W r c < 100000) {a : Pl} (ha : inP (mkPg rows cols W) a) : digU (byA (mkPg rows cols W) a) ∧ (firstB (mkPg rows cols W) a = true → byA (mkPg rows cols W) a ≠ 48) := by
 obtain ⟨i, k, x⟩ := a
 obtain ⟨h1, h2, h3⟩ := ha
 simp only at h1 h2 h3
 rw [mk_len] at h1
 rw [mk_rowl h1] at h2
 rw [mk_ent h1 h2] at h3
 have ht := txtB_ok (hW i k h1 h2)
 unfold byA firstB
 simp only
 rw [mk_ent h1 h2]
 refine ⟨ht.2.1 x h3, fun hf => ?_⟩
 simp only [Bool.and_eq_true, beq_iff_eq, decide_eq_true_eq] at hf
 rw [hf.1]
 exact ht.2.2.1 hf.2
theorem mk_valid {rows cols : Nat} {W : Nat → Nat → Nat} (hr : 2 ≤ rows ∧ rows ≤ 5) (hc : 2 ≤ cols ∧ cols ≤ 5) (hW : ∀ r c, r < rows → c < cols → W r c < 100000) : validB (mkPg rows cols W) = true ∧ placesP (mkPg rows cols W) = [] := by
 have hp : placesP (mkPg rows cols W) = [] := by
  cases h : placesP (mkPg rows cols W) with
  | nil => rfl
  | cons a L =>
   have hm := mem_places_iff.1 (show a ∈ placesP (mkPg rows cols W) by rw [h]; exact List.mem_cons_self)
   have := (mk_by hW hm.1).1
   rw [hm.2] at this
   unfold digU at this
   have h63 : (63 : UInt8).toNat = 63 := rfl
   omega
 have hw : wideP (mkPg rows cols W) = cols := mk_rowl (i := 0) (by omega)
 refine ⟨valid_iff.2 ⟨⟨by rw [mk_len]; exact hr, fun i hi => ?_, fun i k hi hk => ?_⟩, fun a ha => ?_, by rw [hp]; simp⟩, hp⟩
 ·rw [mk_len] at hi
  rw [mk_rowl hi, hw]
  exact ⟨hc, rfl⟩
 ·rw [mk_len] at hi
  rw [mk_rowl hi] at hk
  rw [mk_ent hi hk]
  exact (txtB_ok (hW i k hi hk)).1
 ·obtain ⟨h1, h2⟩ := mk_by hW ha
  refine ⟨?_, h2⟩
  unfold digU at h1
  unfold entC inW
  simp only [Bool.or_eq_true, Bool.and_eq_true, decide_eq_true_eq]
  right; omega
theorem mk_val {rows cols : Nat} {W : Nat → Nat → Nat} (hr : 2 ≤ rows ∧ rows ≤ 5) (hc : 2 ≤ cols ∧ cols ≤ 5) (hW : ∀ r c, r < rows → c < cols → W r c < 100000) {i k : Nat} (hi : i < rows) (hk : k < cols) : valN (fun _ => none) (mkPg rows cols W) i k = (W i k : Int) := by
 have ht := txtB_ok (hW i k hi hk)
 unfold valN
 rw [mk_ent hi hk, dry_ent _ i k _ (Nat.le_refl _), ht.2.2.2]
 unfold lostC
 rw [List.count_eq_zero]
 intro hm
 obtain ⟨x, hx, e⟩ := List.getElem_of_mem hm
 rw [bytes_len] at hx
 have := ht.2.1 x hx
 rw [List.getD_eq_getElem?_getD, List.getElem?_eq_getElem (by rw [bytes_len]; exact hx), Option.getD_some, e] at this
 unfold digU at this
 have h63 : (63 : UInt8).toNat = 63 := rfl
 omega
def sumT (f : Nat → Nat) : Nat → Nat
 | 0 => 0
 | n + 1 => sumT f n + f n
theorem sumT_N (f : Nat → Nat) : ∀ n, sumN (fun k => (f k : Int)) n = (sumT f n : Int)
 | 0 => rfl
 | n + 1 => by unfold sumN sumT; rw [sumT_N f n]; omega
theorem sumT_congr {f g : Nat → Nat} : ∀ n, (∀ x, x < n → f x = g x) → sumT f n = sumT g n
 | 0, _ => rfl
 | n + 1, h => by unfold sumT; rw [sumT_congr n fun x hx => h x (by omega), h n (by omega)]
theorem sumT_le {f : Nat → Nat} {m : Nat} : ∀ n, (∀ x, x < n → f x ≤ m) → sumT f n ≤ n * m
 | 0, _ => by unfold sumT; omega
 | n + 1, h => by
  have := sumT_le n fun x hx => h x (by omega)
  have := h n (by omega)
  unfold sumT
  rw [Nat.add_mul]; omega
theorem sumT_add (f g : Nat → Nat) : ∀ n, sumT (fun x => f x + g x) n = sumT f n + sumT g n
 | 0 => rfl
 | n + 1 => by unfold sumT; rw [sumT_add f g n]; omega
theorem sumT_zero : ∀ n, sumT (fun _ => 0) n = 0
 | 0 => rfl
 | n + 1 => by unfold sumT; rw [sumT_zero n]
theorem sumT_swap (v : Nat → Nat → Nat) (n : Nat) : ∀ m, sumT (fun c => sumT (fun r => v r c) m) n = sumT (fun r => sumT (fun c => v r c) n) m
 | 0 => sumT_zero n
 | m + 1 => by
  have := sumT_swap v n m
  show sumT (fun c => sumT (fun r => v r c) m + v m c) n = sumT (fun r => sumT (fun c => v r c) n) m + sumT (fun c => v m c) n
  rw [sumT_add, this]
def rowS (v : Nat → Nat → Nat) (cols r : Nat) : Nat := sumT (fun c => v r c) (cols - 1)
def wholeW (v : Nat → Nat → Nat) (rows cols : Nat) : Nat → Nat → Nat := fun r c =>
 if r < rows - 1 then (if c < cols - 1 then v r c else rowS v cols r) else (if c < cols - 1 then sumT (fun i => v i c) (rows - 1) else sumT (fun i => rowS v cols i) (rows - 1))
def wholeP (v : Nat → Nat → Nat) (rows cols : Nat) : Pg := mkPg rows cols (wholeW v rows cols)
theorem rowS_le {v : Nat → Nat → Nat} (hv : ∀ r c, v r c < 400) {cols : Nat} (hc : cols ≤ 5) (r : Nat) : rowS v cols r ≤ 1600 := by
 have := sumT_le (f := fun c => v r c) (m := 400) (cols - 1) fun x _ => Nat.le_of_lt (hv r x)
 unfold rowS
 have h4 : (cols - 1) * 400 ≤ 4 * 400 := Nat.mul_le_mul_right _ (by omega)
 omega
theorem wholeW_lt {v : Nat → Nat → Nat} (hv : ∀ r c, v r c < 400) {rows cols : Nat} (hr : rows ≤ 5) (hc : cols ≤ 5) (r c : Nat) : wholeW v rows cols r c < 100000 := by
 have h1 := rowS_le hv hc
 have h2 := sumT_le (f := fun i => v i c) (m := 400) (rows - 1) fun x _ => Nat.le_of_lt (hv x c)
 have h3 := sumT_le (f := fun i => rowS v cols i) (m := 1600) (rows - 1) fun x _ => h1 x
 have h4 := hv r c
 have h5 := h1 r
 have h6 : (rows - 1) * 400 ≤ 4 * 400 := Nat.mul_le_mul_right _ (by omega)
 have h7 : (rows - 1) * 1600 ≤ 4 * 1600 := Nat.mul_le_mul_right _ (by omega)
 unfold wholeW
 split
 ·split <;> omega
 ·split <;> omega
theorem whole_ok {v : Nat → Nat → Nat} (hv : ∀ r c, v r c < 400) {rows cols : Nat} (hr : 2 ≤ rows ∧ rows ≤ 5) (hc : 2 ≤ cols ∧ cols ≤ 5) : validB (wholeP v rows cols) = true ∧ placesP (wholeP v rows cols) = [] ∧ agE (wholeP v rows cols) (fun _ => none) = true := by
 have hW : ∀ r c, r < rows → c < cols → wholeW v rows cols r c < 100000 := fun r c _ _ => wholeW_lt hv hr.2 hc.2 r c
 have h1 := mk_valid hr hc hW
 refine ⟨h1.1, h1.2, ?_⟩
 have hw : wideP (wholeP v rows cols) = cols := mk_rowl (i := 0) (by omega)
 have hl : (wholeP v rows cols).length = rows := mk_len _ _ _
 have hval : ∀ i k, i < rows → k < cols → valN (fun _ => none) (wholeP v rows cols) i k = (wholeW v rows cols i k : Int) := fun i k hi hk => mk_val hr hc hW hi hk
 unfold agE colsB
 rw [hl, hw, Bool.and_eq_true, List.all_eq_true, List.all_eq_true]
 constructor
 ·intro i hi
  have hi := List.mem_range.1 hi
  unfold rowB
  rw [hw, beq_iff_eq, hval i _ hi (by omega), sumN_congr _ fun x hx => hval i x hi (by omega), sumT_N]
  congr 1
  unfold wholeW
  by_cases h : i < rows - 1
  ·rw [if_pos h, if_neg (by omega)]
   refine sumT_congr _ fun x hx => ?_
   rw [if_pos h, if_pos hx]
  ·rw [if_neg h, if_neg (by omega)]
   have : sumT (fun k => if i < rows - 1 then (if k < cols - 1 then v i k else rowS v cols i) else (if k < cols - 1 then sumT (fun i => v i k) (rows - 1) else sumT (fun i => rowS v cols i) (rows - 1))) (cols - 1) = sumT (fun c => sumT (fun r => v r c) (rows - 1)) (cols - 1) := sumT_congr _ fun x hx => by rw [if_neg h, if_pos hx]
   rw [this, sumT_swap]; rfl
 ·intro k hk
  have hk := List.mem_range.1 hk
  unfold colB
  rw [hl, beq_iff_eq, hval _ k (by omega) hk, sumN_congr _ fun x hx => hval x k (by omega) hk, sumT_N]
  congr 1
  unfold wholeW
  rw [if_neg (show ¬ rows - 1 < rows - 1 by omega)]
  by_cases h : k < cols - 1
  ·rw [if_pos h]
   refine sumT_congr _ fun x hx => ?_
   rw [if_pos hx, if_pos h]
  ·rw [if_neg h]
   refine sumT_congr _ fun x hx => ?_
   rw [if_pos hx, if_neg h]
def drown (p : Pg) (A : Nat → Pl) : Nat → Pg
 | 0 => p
 | m + 1 => setP (drown p A m) (A m) 15
theorem drown_shp (p : Pg) (A : Nat → Pl) : ∀ m, shp (drown p A m) = shp p
 | 0 => rfl
 | m + 1 => (set_shp _ _ _).trans (drown_shp p A m)
theorem drown_by {p : Pg} (A : Nat → Pl) {b : Pl} (hb : inP p b) : ∀ m, byA (drown p A m) b = 63 ∨ byA (drown p A m) b = byA p b
 | 0 => .inr rfl
 | m + 1 => by
  have hb2 := (shp_in (drown_shp p A m) b).2 hb
  show byA (setP (drown p A m) (A m) 15) b = 63 ∨ _
  rw [show byA (drown p A (m + 1)) b = byA (setP (drown p A m) (A m) 15) b from rfl, set_by _ _ _ hb2]
  by_cases e : b = A m
  ·rw [if_pos e]; exact .inl rfl
  ·rw [if_neg e]; exact drown_by A hb m
theorem sub_len {α : Type} [DecidableEq α] {l : List α} : ∀ {m : List α}, l.Nodup → (∀ x ∈ l, x ∈ m) → l.length ≤ m.length := by
 induction l with
 | nil => intro m _ _; exact Nat.zero_le _
 | cons a l ih =>
  intro m hn hs
  have hn' := List.nodup_cons.1 hn
  have h2 := ih (m := m.filter fun y => decide (y ≠ a)) hn'.2 fun x hx => List.mem_filter.2 ⟨hs x (List.mem_cons_of_mem _ hx), by
   rw [decide_eq_true_eq]
   intro e
   exact hn'.1 (by rw [← e]; exact hx)⟩
  have h3 : (m.filter fun y => decide (y ≠ a)).length < m.length := List.length_filter_lt_length_iff_exists.2 ⟨a, hs a List.mem_cons_self, by simp⟩
  rw [List.length_cons]; omega
theorem drown_places {p : Pg} (h0 : placesP p = []) (A : Nat → Pl) : ∀ m, (placesP (drown p A m)).length ≤ m
 | 0 => by rw [show drown p A 0 = p from rfl, h0]; exact Nat.le_refl _
 | m + 1 => by
  have ih := drown_places h0 A m
  have : (placesP (drown p A (m + 1))).length ≤ (A m :: placesP (drown p A m)).length := sub_len (places_nodup _) fun b hb => by
   have hm := mem_places_iff.1 hb
   have hb2 := (shp_in (set_shp (drown p A m) (A m) 15) b).1 hm.1
   have hby := hm.2
   rw [show byA (drown p A (m + 1)) b = byA (setP (drown p A m) (A m) 15) b from rfl, set_by _ _ _ hb2] at hby
   by_cases e : b = A m
   ·rw [e]; exact List.mem_cons_self
   ·rw [if_neg e] at hby
    exact List.mem_cons_of_mem _ (mem_places_iff.2 ⟨hb2, hby⟩)
  rw [List.length_cons] at this
  omega
theorem drown_valid {p : Pg} (hv : validB p = true) (h0 : placesP p = []) (A : Nat → Pl) {m : Nat} (hm : m ≤ 5) : validB (drown p A m) = true := by
 have hv' := valid_iff.1 hv
 have hs := drown_shp p A m
 refine valid_iff.2 ⟨(shpOk_iff hs).2 hv'.1, fun a ha => ?_, Nat.le_trans (drown_places h0 A m) hm⟩
 have ha2 := (shp_in hs a).1 ha
 rw [shp_first hs]
 rcases drown_by A ha2 m with e | e
 ·rw [e]; exact ⟨by decide, fun _ => by decide⟩
 ·rw [e]; exact hv'.2.1 a ha2
theorem drown_good {p : Pg} (hv : validB p = true) (h0 : placesP p = []) (hg : agE p (fun _ => none) = true) (A : Nat → Pl) (m : Nat) : goodP (drown p A m) p := by
 have hv' := valid_iff.1 hv
 have hs := drown_shp p A m
 refine ⟨⟨hs.symm, fun a ha hne => ?_⟩, fun a ha => ?_, fun a ha hf => ?_, hg⟩
 ·rcases drown_by A ((shp_in hs a).1 ha) m with e | e
  ·exact absurd e hne
  ·exact e.symm
 ·have ha2 := (shp_in hs a).1 ha
  have hc := (hv'.2.1 a ha2).1
  have hne : byA p a ≠ 63 := fun e => by
   have := mem_places_iff.2 ⟨ha2, e⟩
   rw [h0] at this; cases this
  unfold entC inW at hc
  simp only [Bool.or_eq_true, beq_iff_eq, Bool.and_eq_true, decide_eq_true_eq] at hc
  have h63 : ¬ ((byA p a).toNat : Int) = 63 := fun h => hne (UInt8.toNat_inj.1 (show (byA p a).toNat = 63 by omega))
  unfold digU; omega
 ·rw [shp_first hs] at hf
  exact (hv'.2.1 a ((shp_in hs a).1 ha)).2 hf
theorem read_of {q x : Pg} (hx : x ∈ pagesR q) : ∃ g ∈ readG q, x = fixP (asgD (placesP q) g) q := by
 unfold pagesR at hx
 obtain ⟨g, hg, e⟩ := List.mem_map.1 hx
 exact ⟨g, hg, e.symm⟩
theorem rest_read {q x : Pg} (hv : validB q = true) (hx : x ∈ pagesR q) {b : Pl} (hb : inP q b) (hne : byA (restP q) b ≠ 63) : byA (restP q) b = byA x b := by
 have hgd := (mem_pages hv).1 hx
 by_cases e : byA q b = 63
 ·obtain ⟨j, hj⟩ := List.mem_iff_getElem?.1 (mem_places_iff.2 ⟨hb, e⟩)
  obtain ⟨g, hg, rfl⟩ := read_of hx
  rw [read_by hg hj]
  rw [rest_at hj] at hne ⊢
  by_cases hs : sureB (readG q) j = true
  ·rw [if_pos hs]
   unfold sureB at hs
   rw [List.all_eq_true] at hs
   have := hs g hg
   rw [beq_iff_eq] at this
   rw [this]
  ·rw [if_neg hs] at hne; exact absurd rfl hne
 ·rw [rest_known hb e]
  exact (hgd.1.2 b hb e).symm
theorem rest_same {q : Pg} (hv : validB q = true) (hne : pagesR q ≠ []) {b : Pl} (hb : inP q b) {u : UInt8} (hu : ∀ x ∈ pagesR q, byA x b = u) : byA (restP q) b = u := by
 by_cases e : byA q b = 63
 ·obtain ⟨j, hj⟩ := List.mem_iff_getElem?.1 (mem_places_iff.2 ⟨hb, e⟩)
  have hr : readG q ≠ [] := fun h => hne (by unfold pagesR; rw [h]; rfl)
  have hm : lastY (readG q) ∈ readG q := by
   unfold lastY
   rw [List.getLastD_eq_getLast?, List.getLast?_eq_some_getLast hr]
   exact List.getLast_mem hr
  have hby : ∀ g ∈ readG q, UInt8.ofNat (48 + (g.getD j 0).toNat) = u := fun g hg => by
   rw [← read_by hg hj]
   exact hu _ (by unfold pagesR; exact List.mem_map.2 ⟨g, hg, rfl⟩)
  have hs : sureB (readG q) j = true := by
   unfold sureB
   rw [List.all_eq_true]
   intro g hg
   rw [beq_iff_eq]
   have d1 := (readG_dig hg).2 j
   have d2 := (readG_dig hm).2 j
   exact byte_inj d1.1 d1.2 d2.1 d2.2 ((hby g hg).trans (hby _ hm).symm)
  rw [rest_at hj, if_pos hs, hby _ hm]
 ·obtain ⟨x, hx⟩ := List.exists_mem_of_ne_nil _ hne
  rw [rest_known hb e, ← hu x hx]
  exact (((mem_pages hv).1 hx).1.2 b hb e).symm
theorem saves {p : Pg} (hv : validB p = true) (h0 : placesP p = []) (hg : agE p (fun _ => none) = true) (A : Nat → Pl) {m : Nat} (hm : m + 1 ≤ 5) (hA : inP p (A m)) :
  1 ≤ (readG (drown p A m)).length ∧ (readG (drown p A m)).length ≤ (readG (drown p A (m + 1))).length ∧
  (∀ b, inP p b → byA (restP (drown p A m)) b ≠ 63 → byA (restP (drown p A m)) b = byA p b) ∧
  (∀ b, inP p b → byA (restP (drown p A (m + 1))) b ≠ 63 → byA (restP (drown p A (m + 1))) b = byA (restP (drown p A m)) b) ∧
  ((readG (drown p A m)).length = 1 → restP (drown p A m) = p) := by
 have hv1 := drown_valid hv h0 A (m := m) (by omega)
 have hv2 := drown_valid hv h0 A hm
 have hp1 := (mem_pages hv1).2 (drown_good hv h0 hg A m)
 have hs1 := drown_shp p A m
 have hs2 := drown_shp p A (m + 1)
 have hby : ∀ b, inP p b → byA (drown p A (m + 1)) b ≠ 63 → byA (drown p A (m + 1)) b = byA (drown p A m) b := fun b hb hne => by
  have hb2 := (shp_in hs1 b).2 hb
  rw [show byA (drown p A (m + 1)) b = byA (setP (drown p A m) (A m) 15) b from rfl, set_by _ _ _ hb2] at hne ⊢
  by_cases e : b = A m
  ·rw [if_pos e] at hne; exact absurd rfl hne
  ·rw [if_neg e]
 have hsub : ∀ x ∈ pagesR (drown p A m), x ∈ pagesR (drown p A (m + 1)) := fun x hx => by
  obtain ⟨⟨g1, g2⟩, g3, g4, g5⟩ := (mem_pages hv1).1 hx
  refine (mem_pages hv2).2 ⟨⟨g1.trans (hs1.trans hs2.symm), fun a ha hne => ?_⟩, fun a ha => ?_, fun a ha hf => ?_, g5⟩
  ·have ha2 := (shp_in hs2 a).1 ha
   have e := hby a ha2 hne
   rw [e] at hne
   rw [e]; exact g2 a ((shp_in hs1 a).2 ha2) hne
  ·exact g3 a ((shp_in hs1 a).2 ((shp_in hs2 a).1 ha))
  ·exact g4 a ((shp_in hs1 a).2 ((shp_in hs2 a).1 ha)) (by rw [shp_first hs1, ← shp_first hs2]; exact hf)
 have hl1 := pages_len (drown p A m)
 have hl2 := pages_len (drown p A (m + 1))
 have hpos := List.length_pos_of_mem hp1
 have hne1 : pagesR (drown p A m) ≠ [] := fun e => by rw [e] at hpos; cases hpos
 refine ⟨by omega, by rw [← hl1, ← hl2]; exact sub_len (pages_nodup _) hsub, fun b hb hne => rest_read hv1 hp1 ((shp_in hs1 b).2 hb) hne, fun b hb hne => ?_, fun h1 => ?_⟩
 ·have hb2 := (shp_in hs2 b).2 hb
  symm
  refine rest_same hv1 hne1 ((shp_in hs1 b).2 hb) fun x hx => ?_
  exact (rest_read hv2 (hsub x hx) hb2 hne).symm
 ·refine page_ext ((rest_shp _).trans hs1) fun b hb => ?_
  rw [shp_in (rest_shp _)] at hb
  refine rest_same hv1 hne1 hb fun x hx => ?_
  have hl : (pagesR (drown p A m)).length = 1 := by omega
  obtain ⟨y, hy⟩ := List.length_eq_one_iff.1 hl
  rw [hy, List.mem_singleton] at hx hp1
  rw [hx, hp1]
end Go.Ow

namespace Go.Ow
open Go Go.RowKit Go.Pm
theorem book_ok {l : List WRec} (hb : bookB l = true) : l.length ≤ 40 ∧ okTo l l.length = true := by
 unfold bookB at hb
 simp only [Bool.and_eq_true, decide_eq_true_eq] at hb
 exact hb
end Go.Ow
namespace Go.Proofs.YtdkboibnokipaaaDoor
open Go.RowKit Go.Pm Go.Ow
theorem rMod_c (n b : Int) (h : 0 < b) (h2 : b ≤ 9223372036854775807) : PCalls Tryd.prog 33 [.int .i64 n, .int .i64 b] (.int .i64 (n % b)) := by
 refine pcalls_by Tryd.mixes noSpec_ok (fn := Tryd.f33) Tryd.func33 rfl (by kernel_rfl) (by show 2 ≤ _; decide) ?_
 have hne : ¬ b = 0 := by omega
 simp +decide (maxSteps := 4000000) only [go_sem, decide_true, Tryd.f33, hne]
 have e := Int.tmod_eq_emod (a := n) (b := b)
 have e1 := Int.emod_nonneg n hne
 have e2 := Int.emod_lt_of_pos n h
 by_cases hn : n.tmod b < 0
 ·simp +decide (maxSteps := 4000000) only [go_sem, decide_true, hn]
  have e3 : n.tmod b + b = n % b := by
   rw [e] at hn ⊢
   split at hn
   ·omega
   ·rename_i hc
    rw [if_neg hc]
    have : (b.natAbs : Int) = b := by omega
    omega
  rw [e3, wrap_in (by omega) (by omega)]
 ·simp +decide (maxSteps := 4000000) only [go_sem, decide_true, hn]
  rw [e] at hn ⊢
  split at hn
  ·rename_i hc; rw [if_pos hc]; simp
  ·rename_i hc
   have : (b.natAbs : Int) = b := by omega
   omega
noncomputable def rfMod : List TV → Option TV
 | [.int .i64 n, .int .i64 b] => if 0 < b ∧ b ≤ 9223372036854775807 then some (.int .i64 (n % b)) else none
 | _ => none
theorem rfMod_ok : ∀ xs r, rfMod xs = some r → PCalls Tryd.prog 33 xs r := by
 intro xs r h
 unfold rfMod at h
 split at h
 ·split at h
  ·rename_i hc; cases h; exact rMod_c _ _ hc.1 hc.2
  ·cases h
 ·cases h
attribute [go_sem] rfMod
end Go.Proofs.YtdkboibnokipaaaDoor

namespace Go.Ow
open Go Go.RowKit Go.Pm
def inR (X : TV) (l : List Int) : Prop := (X = .nilSl ∧ l = []) ∨ ∃ f, X = .sl (l.map (.int .i64)) l.length f
def pkN (l : List Int) (n : Int) : Int := if l.length = 0 then 0 else l.getD (n % (l.length : Int)).toNat 0
theorem ints_at {l : List Int} {k : Nat} {x : Int} (h : l[k]? = some x) : (l.map (TV.int .i64)).drop k = .int .i64 x :: (l.map (TV.int .i64)).drop (k + 1) := by
 have hk := (List.getElem?_eq_some_iff.1 h).1
 rw [List.drop_eq_getElem_cons (by rw [List.length_map]; exact hk), List.getElem_map]
 have := List.getElem?_eq_getElem hk
 rw [h] at this
 rw [← Option.some.inj this]
end Go.Ow
namespace Go.Proofs.YtdkboibnokipaaaDoor
open Go.RowKit Go.Pm Go.Ow
theorem rText_c : ∀ (k n : Nat), k ≤ 4 → n < 10 ^ (k + 1) → PCalls Tryd.prog 50 [.int .i64 (n : Int)] (.str ⟨(txtF (k + 1) n).toArray⟩) := by
 intro k
 induction k with
 | zero =>
  intro n _ h
  have hn : n < 10 := by simpa using h
  have e : txtF (0 + 1) n = [UInt8.ofNat (48 + n % 10)] := by rw [txtF, if_pos hn, Nat.mod_eq_of_lt hn]
  rw [e]
  have h1 : ¬ (n : Int) < 0 := by omega
  have h2 : ¬ (n : Int) ≥ 10 := by omega
  have ht : (n : Int).tmod 10 = ((n % 10 : Nat) : Int) := by rw [Int.tmod_eq_emod_of_nonneg (by omega)]; rfl
  have w1 : IntKind.i64.wrap (48 + ((n % 10 : Nat) : Int)) = 48 + ((n % 10 : Nat) : Int) := wrap_in (by omega) (by omega)
  have w2 : IntKind.u8.wrap (48 + ((n % 10 : Nat) : Int)) = 48 + ((n % 10 : Nat) : Int) := by rw [IntKind.wrap_u8]; omega
  have hs : strOfNums [48 + ((n % 10 : Nat) : Int)] = ⟨#[UInt8.ofNat (48 + n % 10)]⟩ := by
   unfold strOfNums
   rw [List.map_cons, List.map_nil, show (48 + ((n % 10 : Nat) : Int)).toNat = 48 + n % 10 by omega]
  obtain ⟨m, hm⟩ : ∃ m, n % 10 = m := ⟨_, rfl⟩
  rw [hm] at ht w1 w2 hs ⊢
  refine pcalls_by Tryd.mixes (Spec.gdt_ok noSpec_ok) (fn := Tryd.f50) Tryd.func50 rfl (by kernel_rfl) (by show 1 ≤ _; decide) ?_
  simp +decide -implicitDefEqProofs (maxSteps := 4000000) only [go_sem, Tryd.f50, h1, h2, ht, w1, w2, hs]
 | succ k ih =>
  intro n hk h
  have h1 : ¬ (n : Int) < 0 := by omega
  have hk5 : (10 : Nat) ^ (k + 1 + 1) ≤ 10 ^ 5 := Nat.pow_le_pow_right (by decide) (by omega)
  have ht : (n : Int).tmod 10 = ((n % 10 : Nat) : Int) := by rw [Int.tmod_eq_emod_of_nonneg (by omega)]; rfl
  have w1 : IntKind.i64.wrap (48 + ((n % 10 : Nat) : Int)) = 48 + ((n % 10 : Nat) : Int) := wrap_in (by omega) (by omega)
  have w2 : IntKind.u8.wrap (48 + ((n % 10 : Nat) : Int)) = 48 + ((n % 10 : Nat) : Int) := by rw [IntKind.wrap_u8]; omega
  have hs : strOfNums [48 + ((n % 10 : Nat) : Int)] = ⟨#[UInt8.ofNat (48 + n % 10)]⟩ := by
   unfold strOfNums
   rw [List.map_cons, List.map_nil, show (48 + ((n % 10 : Nat) : Int)).toNat = 48 + n % 10 by omega]
  by_cases hn : n < 10
  ·have e : txtF (k + 1 + 1) n = [UInt8.ofNat (48 + n % 10)] := by rw [txtF, if_pos hn, Nat.mod_eq_of_lt hn]
   rw [e]
   have h2 : ¬ (n : Int) ≥ 10 := by omega
   obtain ⟨m, hm⟩ : ∃ m, n % 10 = m := ⟨_, rfl⟩
   rw [hm] at ht w1 w2 hs ⊢
   refine pcalls_by Tryd.mixes (Spec.gdt_ok noSpec_ok) (fn := Tryd.f50) Tryd.func50 rfl (by kernel_rfl) (by show 1 ≤ _; decide) ?_
   simp +decide -implicitDefEqProofs (maxSteps := 4000000) only [go_sem, Tryd.f50, h1, h2, ht, w1, w2, hs]
  ·have e : txtF (k + 1 + 1) n = txtF (k + 1) (n / 10) ++ [UInt8.ofNat (48 + n % 10)] := by rw [txtF, if_neg hn]
   have hdl : n / 10 < 10 ^ (k + 1) := by
    rw [Nat.pow_succ] at h
    exact Nat.div_lt_of_lt_mul (by rw [Nat.mul_comm]; exact h)
   have hrec := ih (n / 10) (by omega) hdl
   have hlen := (txtF_ok k (n / 10) hdl).1.2
   have h2 : (n : Int) ≥ 10 := by omega
   have hq : (n : Int).tdiv 10 = ((n / 10 : Nat) : Int) := by rw [Int.tdiv_eq_ediv_of_nonneg (by omega)]; rfl
   have w3 : IntKind.i64.wrap ((n / 10 : Nat) : Int) = ((n / 10 : Nat) : Int) := wrap_in (by omega) (by omega)
   rw [e]
   obtain ⟨L, hL⟩ : ∃ L, txtF (k + 1) (n / 10) = L := ⟨_, rfl⟩
   rw [hL] at hrec hlen ⊢
   have hz : (ByteArray.mk L.toArray).size + (ByteArray.mk #[UInt8.ofNat (48 + n % 10)]).size ≤ 4294967296 := by
    have a1 : (ByteArray.mk L.toArray).size = L.length := List.size_toArray
    have a2 : (ByteArray.mk #[UInt8.ofNat (48 + n % 10)]).size = 1 := rfl
    omega
   have hz1 : (ByteArray.mk L.toArray).size ≤ 4294967295 := by
    have a1 : (ByteArray.mk L.toArray).size = L.length := List.size_toArray
    omega
   have hz2 : L.length ≤ 4294967295 := by omega
   have ha : (ByteArray.mk L.toArray) ++ (ByteArray.mk #[UInt8.ofNat (48 + n % 10)]) = ⟨(L ++ [UInt8.ofNat (48 + n % 10)]).toArray⟩ := baL_app L _
   obtain ⟨d, hd⟩ : ∃ d, n / 10 = d := ⟨_, rfl⟩
   obtain ⟨m, hm⟩ : ∃ m, n % 10 = m := ⟨_, rfl⟩
   rw [hd] at hq w3 hrec
   rw [hm] at ht w1 w2 hs hz ha ⊢
   refine pcalls_by Tryd.mixes (Spec.gdt_ok (Spec.one_ok (oneP_ok hrec) noSpec_ok)) (fn := Tryd.f50) Tryd.func50 rfl (by kernel_rfl) (by show 1 ≤ _; decide) ?_
   simp +decide -implicitDefEqProofs (maxSteps := 4000000) only [go_sem, Tryd.f50, h1, h2, ht, w1, w2, hs, hq, w3, hz, hz1, hz2, ha]
noncomputable def rfText : List TV → Option TV
 | [.int .i64 n] => if 0 ≤ n ∧ n < 100000 then some (.str (txtB n.toNat)) else none
 | _ => none
theorem rfText_ok : ∀ xs r, rfText xs = some r → PCalls Tryd.prog 50 xs r := by
 intro xs r h
 unfold rfText at h
 split at h
 ·rename_i n
  split at h
  ·rename_i hc
   cases h
   have := rText_c 4 n.toNat (Nat.le_refl _) (by omega)
   rw [show ((n.toNat : Nat) : Int) = n by omega] at this
   exact this
  ·cases h
 ·cases h
theorem rfText_of {n : Nat} (h : n < 100000) : rfText [.int .i64 (n : Int)] = some (.str (txtB n)) := by
 show (if (0 : Int) ≤ (n : Int) ∧ (n : Int) < 100000 then some (TV.str (txtB (n : Int).toNat)) else none) = _
 rw [if_pos ⟨by omega, by omega⟩, Int.toNat_natCast]
theorem rPick_c {X : TV} {l : List Int} (hX : inR X l) (hl : l.length ≤ 140737488355328) (n : Int) : PCalls Tryd.prog 34 [X, .int .i64 n] (.int .i64 (pkN l n)) := by
 refine pcalls_by Tryd.mixes (Spec.one_ok rfMod_ok noSpec_ok) (fn := Tryd.f34) Tryd.func34 rfl (by kernel_rfl) (by show 2 ≤ _; decide) ?_
 rcases hX with ⟨rfl, rfl⟩ | ⟨f, rfl⟩
 ·simp +decide -implicitDefEqProofs (maxSteps := 4000000) only [go_sem, Tryd.f34, show pkN [] n = 0 from rfl]
 ·by_cases h0 : l.length = 0
  ·have e : pkN l n = 0 := by unfold pkN; rw [if_pos h0]
   have hz : ((l.length : Int) == 0) = true := by rw [h0]; rfl
   simp +decide -implicitDefEqProofs (maxSteps := 4000000) only [go_sem, Tryd.f34, hz, e]
  ·have hz : ((l.length : Int) == 0) = false := by rw [beq_eq_false_iff_ne]; omega
   have m1 : (0 : Int) < l.length := by omega
   have m2 : (l.length : Int) ≤ 9223372036854775807 := by omega
   have e0 := Int.emod_nonneg n (show (l.length : Int) ≠ 0 by omega)
   have e1 := Int.emod_lt_of_pos n m1
   obtain ⟨i, hi⟩ : ∃ i : Nat, n % (l.length : Int) = (i : Int) := ⟨(n % (l.length : Int)).toNat, by omega⟩
   obtain ⟨x, hx⟩ : ∃ x, l[i]? = some x := ⟨_, List.getElem?_eq_getElem (by omega)⟩
   have e : pkN l n = x := by unfold pkN; rw [if_neg h0, hi, Int.toNat_natCast, List.getD_eq_getElem?_getD, hx]; rfl
   have dx := ints_at hx
   have bi : (i : Int) < l.length := by omega
   simp +decide -implicitDefEqProofs (maxSteps := 4000000) only [go_sem, Tryd.f34, hz, m1, m2, hi, bi, dx, e, Nat.mul_one]
open Classical in
noncomputable def rfPick (X : TV) (l : List Int) : List TV → Option TV
 | [t, .int .i64 n] => if t = X then some (.int .i64 (pkN l n)) else none
 | _ => none
open Classical in
@[go_sem] theorem rfPick_eq (X : TV) (l : List Int) (n : Int) : rfPick X l [X, .int .i64 n] = some (.int .i64 (pkN l n)) := by
 show (if X = X then some (TV.int .i64 (pkN l n)) else none) = _
 rw [if_pos rfl]
theorem rfPick_ok {X : TV} {l : List Int} (hX : inR X l) (hl : l.length ≤ 140737488355328) : ∀ a r, rfPick X l a = some r → PCalls Tryd.prog 34 a r := by
 intro a r h
 unfold rfPick at h
 split at h
 ·split at h
  ·rename_i hc; subst hc; cases h; exact rPick_c hX hl _
  ·cases h
 ·cases h
def dA (p : Pg) (l : List Int) (i : Nat) : Pl :=
 ((pkN l (3 * (i : Int) + 1) % (p.length : Int)).toNat, (pkN l (3 * (i : Int) + 2) % ((rowA p (pkN l (3 * (i : Int) + 1) % (p.length : Int)).toNat).length : Int)).toNat,
  (pkN l (3 * (i : Int) + 3) % ((entA (rowA p (pkN l (3 * (i : Int) + 1) % (p.length : Int)).toNat) (pkN l (3 * (i : Int) + 2) % ((rowA p (pkN l (3 * (i : Int) + 1) % (p.length : Int)).toNat).length : Int)).toNat).size : Int)).toNat)
theorem emod_nat {n : Int} {b : Nat} (h : 0 < b) : ∃ k : Nat, n % (b : Int) = (k : Int) ∧ k < b := by
 have h1 := Int.emod_nonneg n (show (b : Int) ≠ 0 by omega)
 have h2 := Int.emod_lt_of_pos n (show (0 : Int) < b by omega)
 exact ⟨(n % (b : Int)).toNat, by omega, by omega⟩
theorem dA_in {p : Pg} (hok : shpOk p) (l : List Int) (i : Nat) : inP p (dA p l i) := by
 obtain ⟨r, hr, hr2⟩ := emod_nat (n := pkN l (3 * (i : Int) + 1)) (b := p.length) (by have := hok.1; omega)
 have h1 := hok.2.1 r hr2
 obtain ⟨c, hc, hc2⟩ := emod_nat (n := pkN l (3 * (i : Int) + 2)) (b := (rowA p r).length) (by omega)
 have h2 := hok.2.2 r c hr2 hc2
 obtain ⟨x, hx, hx2⟩ := emod_nat (n := pkN l (3 * (i : Int) + 3)) (b := (entA (rowA p r) c).size) (by omega)
 unfold dA inP
 simp only [hr, Int.toNat_natCast, hc, hx]
 exact ⟨hr2, hc2, hx2⟩
def drT (s : TV) (p : Pg) (l : List Int) (m : Nat) : TV := if m = 0 then s else pgF (drown p (dA p l) m)
theorem drT_R {s : TV} {p : Pg} (hs : pgR s p) (l : List Int) (m : Nat) : pgR (drT s p l m) (drown p (dA p l) m) := by
 unfold drT
 by_cases h : m = 0
 ·subst h; rw [if_pos rfl]; exact hs
 ·rw [if_neg h]; exact pgF_R _
noncomputable def spDr (X : TV) (l : List Int) : Pm.Spec := ((noSpec.one 33 rfMod).one 34 (rfPick X l)).one 37 rWithT
theorem spDr_ok {X : TV} {l : List Int} (hX : inR X l) (hl : l.length ≤ 140737488355328) : SpecOk Tryd.prog (spDr X l) := Spec.one_ok rWithT_ok (Spec.one_ok (rfPick_ok hX hl) (Spec.one_ok rfMod_ok noSpec_ok))
theorem rDrown_c {s X : TV} {p : Pg} {l : List Int} (hs : pgR s p) (hok : shpOk p) (hX : inR X l) (hl : l.length ≤ 140737488355328) {m : Nat} (hm : m ≤ 5) : PCalls Tryd.prog 35 [s, .int .i64 m, X] (drT s p l m) := by
 obtain ⟨R, hR⟩ : ∃ R, drT s p l m = R := ⟨_, rfl⟩
 have hs0 : drT s p l 0 = s := rfl
 rw [hR]
 refine pcalls_by Tryd.mixes (Spec.gdt_ok (spDr_ok hX hl)) (fn := Tryd.f35) Tryd.func35 rfl (by kernel_rfl) (by show 3 ≤ _; decide) ?_
 simp +decide -implicitDefEqProofs (maxSteps := 4000000) only [go_sem, Tryd.f35, spDr]
 refine pwpC_loopU (A := { i : Nat // i ≤ m }) [1, 2] (fun i => [(7, .t (.int .i64 i.1)), (0, .t (drT s p l i.1))]) (fun _ => []) (fun i => m - i.1) ⟨0, by omega⟩ (by decide) (fun _ => by rfl) ?_ fun Q1 hQ1 ⟨i, hi⟩ I1 hI1 => ?_
 ·simp +decide -implicitDefEqProofs (maxSteps := 4000000) only [go_sem, spDr, hs0]
 ·by_cases hlt : (i : Int) < m
  ·have hT := drT_R hs l i
   have hsh := drown_shp p (dA p l) i
   have hokq := (shpOk_iff hsh).2 hok
   have hin := dA_in hok l i
   have hinq := (shp_in hsh _).2 hin
   have hnx : drT s p l (i + 1) = pgF (setP (drown p (dA p l) i) (dA p l i) 15) := by unfold drT; rw [if_neg (by omega)]; rfl
   obtain ⟨q, hq⟩ : ∃ q, drown p (dA p l) i = q := ⟨_, rfl⟩
   rw [hq] at hT hsh hokq hinq hnx
   obtain ⟨T, hTe⟩ : ∃ T, drT s p l i = T := ⟨_, rfl⟩
   rw [hTe] at hT
   obtain ⟨r, hr, hr2⟩ := emod_nat (n := pkN l (3 * (i : Int) + 1)) (b := q.length) (by have := hokq.1; omega)
   have h1 := hokq.2.1 r hr2
   obtain ⟨c, hc, hc2⟩ := emod_nat (n := pkN l (3 * (i : Int) + 2)) (b := (rowA q r).length) (by omega)
   have h2 := hokq.2.2 r c hr2 hc2
   obtain ⟨x, hx, hx2⟩ := emod_nat (n := pkN l (3 * (i : Int) + 3)) (b := (entA (rowA q r) c).size) (by omega)
   have hdA : dA p l i = (r, c, x) := by
    unfold dA
    rw [← shp_len hsh]
    simp only [hr, Int.toNat_natCast]
    rw [← shp_rowl hsh r]
    simp only [hc, Int.toNat_natCast]
    rw [← shp_size hsh r c]
    simp only [hx, Int.toNat_natCast]
   rw [hdA] at hinq hnx
   have kw := rWithT_of (d := 15) hT hokq hinq (by decide)
   simp only at kw
   rw [show (48 : Int) + 15 = 63 from rfl, ← hnx] at kw
   obtain ⟨rs, f, rfl, hrl, hrs⟩ := page_rows2 hT hokq
   obtain ⟨e, he⟩ : ∃ e, q[r]? = some e := ⟨_, List.getElem?_eq_getElem hr2⟩
   obtain ⟨t, ht⟩ : ∃ t, rs[r]? = some t := ⟨_, List.getElem?_eq_getElem (by omega)⟩
   obtain ⟨g, rfl⟩ := hrs r e t he ht
   have d1 := tv_at ht
   have er : rowA q r = e := by unfold rowA; rw [List.getD_eq_getElem?_getD, he]; rfl
   rw [er] at hc hc2 hx hx2 h1 h2
   obtain ⟨y, hy⟩ : ∃ y, e[c]? = some y := ⟨_, List.getElem?_eq_getElem hc2⟩
   have dy := txs_at hy
   have ey : entA e c = y := by unfold entA; rw [List.getD_eq_getElem?_getD, hy]; rfl
   rw [ey] at hx hx2 h2
   have hql := hokq.1
   have hk1 := Go.Pm.wS (k := i) (by omega)
   have w0 : IntKind.i64.wrap (3 * (i : Int)) = 3 * (i : Int) := wrap_in (by omega) (by omega)
   have w1 : IntKind.i64.wrap (3 * (i : Int) + 1) = 3 * (i : Int) + 1 := wrap_in (by omega) (by omega)
   have w2 : IntKind.i64.wrap (3 * (i : Int) + 2) = 3 * (i : Int) + 2 := wrap_in (by omega) (by omega)
   have w3 : IntKind.i64.wrap (3 * (i : Int) + 3) = 3 * (i : Int) + 3 := wrap_in (by omega) (by omega)
   have m1 : (0 : Int) < q.length := by omega
   have m1' : (q.length : Int) ≤ 9223372036854775807 := by omega
   have m2 : (0 : Int) < e.length := by omega
   have m2' : (e.length : Int) ≤ 9223372036854775807 := by omega
   have m3 : (0 : Int) < y.size := by omega
   have m3' : (y.size : Int) ≤ 9223372036854775807 := by omega
   have br : (r : Int) < q.length := by omega
   have bc : (c : Int) < e.length := by omega
   simp +decide -implicitDefEqProofs (maxSteps := 4000000) only [go_sem, spDr, hlt, hTe, w0, w1, w2, w3, m1, m1', m2, m2', m3, m3', hr, hc, hx, br, bc, d1, dy, kw, Nat.mul_one]
   refine hI1 _ ⟨i + 1, by omega⟩ (by simp only; omega) ?_
   simp +decide -implicitDefEqProofs (maxSteps := 4000000) only [go_sem, spDr, hk1]
  ·have hie : i = m := by omega
   subst hie
   simp +decide -implicitDefEqProofs (maxSteps := 4000000) only [go_sem, spDr, hlt, hR]
   refine hQ1 _ _ ?_
   simp +decide -implicitDefEqProofs (maxSteps := 4000000) only [go_sem, spDr, hR]
end Go.Proofs.YtdkboibnokipaaaDoor
