/- What the claim leans on, text 6. -/
import Derived.WalkKit
import Derived.BigCall
import Derived.Test.YtdkboibnokipaaaDoorTie
import Derived.Test.YtdkboibnokipaaaDoorCards
import Derived.LaidMore
import Derived.SevenTiedAt
import Derived.OpenShut
import Derived.Lay
import Derived.Test.YtdkboibnokipaaaDoorC5
set_option linter.unusedSimpArgs false
set_option linter.unusedVariables false
set_option maxRecDepth 100000
set_option maxHeartbeats 16000000

namespace Go.Ow
open Go Go.RowKit Go.Pm
theorem pl_ne {a b : Pl} (h : a ≠ b) : ¬ ((a.1 : Int) = b.1 ∧ (a.2.1 : Int) = b.2.1 ∧ (a.2.2 : Int) = b.2.2) := fun e => h (by
 obtain ⟨a1, a2, a3⟩ := a
 obtain ⟨b1, b2, b3⟩ := b
 simp only at e
 rw [show a1 = b1 by omega, show a2 = b2 by omega, show a3 = b3 by omega])
theorem dig_at {n : Nat} {g : List Int} (h : digOk n g) (k : Nat) : ∃ e : Nat, g.getD k 0 = (e : Int) ∧ e < 10 := ⟨(g.getD k 0).toNat, by have := h.2 k; omega, by have := h.2 k; omega⟩
theorem dig1 {a0 : Pl} {g : List Int} (h : digOk [a0].length g) : ∃ e0 : Nat, g = [(e0 : Int)] ∧ e0 < 10 := by
 have hl : g.length = 1 := h.1
 match g, hl with
 | [x0], _ =>
  obtain ⟨e0, q0, r0⟩ := dig_at h 0
  change x0 = _ at q0
  exact ⟨e0, by rw [q0], r0⟩
theorem dig2 {a0 a1 : Pl} {g : List Int} (h : digOk [a0, a1].length g) : ∃ e0 e1 : Nat, g = [(e0 : Int), (e1 : Int)] ∧ e0 < 10 ∧ e1 < 10 := by
 have hl : g.length = 2 := h.1
 match g, hl with
 | [x0, x1], _ =>
  obtain ⟨e0, q0, r0⟩ := dig_at h 0
  change x0 = _ at q0
  obtain ⟨e1, q1, r1⟩ := dig_at h 1
  change x1 = _ at q1
  exact ⟨e0, e1, by rw [q0, q1], r0, r1⟩
theorem dig3 {a0 a1 a2 : Pl} {g : List Int} (h : digOk [a0, a1, a2].length g) : ∃ e0 e1 e2 : Nat, g = [(e0 : Int), (e1 : Int), (e2 : Int)] ∧ e0 < 10 ∧ e1 < 10 ∧ e2 < 10 := by
 have hl : g.length = 3 := h.1
 match g, hl with
 | [x0, x1, x2], _ =>
  obtain ⟨e0, q0, r0⟩ := dig_at h 0
  change x0 = _ at q0
  obtain ⟨e1, q1, r1⟩ := dig_at h 1
  change x1 = _ at q1
  obtain ⟨e2, q2, r2⟩ := dig_at h 2
  change x2 = _ at q2
  exact ⟨e0, e1, e2, by rw [q0, q1, q2], r0, r1, r2⟩
theorem dig4 {a0 a1 a2 a3 : Pl} {g : List Int} (h : digOk [a0, a1, a2, a3].length g) : ∃ e0 e1 e2 e3 : Nat, g = [(e0 : Int), (e1 : Int), (e2 : Int), (e3 : Int)] ∧ e0 < 10 ∧ e1 < 10 ∧ e2 < 10 ∧ e3 < 10 := by
 have hl : g.length = 4 := h.1
 match g, hl with
 | [x0, x1, x2, x3], _ =>
  obtain ⟨e0, q0, r0⟩ := dig_at h 0
  change x0 = _ at q0
  obtain ⟨e1, q1, r1⟩ := dig_at h 1
  change x1 = _ at q1
  obtain ⟨e2, q2, r2⟩ := dig_at h 2
  change x2 = _ at q2
  obtain ⟨e3, q3, r3⟩ := dig_at h 3
  change x3 = _ at q3
  exact ⟨e0, e1, e2, e3, by rw [q0, q1, q2, q3], r0, r1, r2, r3⟩
theorem dig5 {a0 a1 a2 a3 a4 : Pl} {g : List Int} (h : digOk [a0, a1, a2, a3, a4].length g) : ∃ e0 e1 e2 e3 e4 : Nat, g = [(e0 : Int), (e1 : Int), (e2 : Int), (e3 : Int), (e4 : Int)] ∧ e0 < 10 ∧ e1 < 10 ∧ e2 < 10 ∧ e3 < 10 ∧ e4 < 10 := by
 have hl : g.length = 5 := h.1
 match g, hl with
 | [x0, x1, x2, x3, x4], _ =>
  obtain ⟨e0, q0, r0⟩ := dig_at h 0
  change x0 = _ at q0
  obtain ⟨e1, q1, r1⟩ := dig_at h 1
  change x1 = _ at q1
  obtain ⟨e2, q2, r2⟩ := dig_at h 2
  change x2 = _ at q2
  obtain ⟨e3, q3, r3⟩ := dig_at h 3
  change x3 = _ at q3
  obtain ⟨e4, q4, r4⟩ := dig_at h 4
  change x4 = _ at q4
  exact ⟨e0, e1, e2, e3, e4, by rw [q0, q1, q2, q3, q4], r0, r1, r2, r3, r4⟩
theorem zer_at {e : Nat} (h : e < 10) : ([.t (.int .i64 0), .t (.int .i64 0), .t (.int .i64 0), .t (.int .i64 0), .t (.int .i64 0), .t (.int .i64 0), .t (.int .i64 0), .t (.int .i64 0), .t (.int .i64 0), .t (.int .i64 0)] : List PV)[e]? = some (.t (.int .i64 0)) := by
 have := cntC_at [] 0 h
 rw [cntC_nil] at this
 exact this
theorem zer_set (g : List Int) (k : Nat) {e : Nat} (h : e < 10) (hg : g.getD k 0 = (e : Int)) : List.take e ([.t (.int .i64 0), .t (.int .i64 0), .t (.int .i64 0), .t (.int .i64 0), .t (.int .i64 0), .t (.int .i64 0), .t (.int .i64 0), .t (.int .i64 0), .t (.int .i64 0), .t (.int .i64 0)] : List PV) ++ [.t (.int .i64 1)] ++ List.drop e [.t (.int .i64 0), .t (.int .i64 0), .t (.int .i64 0), .t (.int .i64 0), .t (.int .i64 0), .t (.int .i64 0), .t (.int .i64 0), .t (.int .i64 0), .t (.int .i64 0)] = cntC [g] k := by
 have := cntC_set [] g k h hg
 rw [List.set_eq_take_append_cons_drop, if_pos (by rw [cntC_len]; exact h), cntC_nil] at this
 rw [List.append_assoc]
 exact this
theorem cnt_set (ys : List (List Int)) (g : List Int) (k : Nat) {e : Nat} (h : e < 10) (hg : g.getD k 0 = (e : Int)) : List.take e (cntC ys k) ++ [.t (.int .i64 ((cntD ys k (e : Int) + 1 : Nat) : Int))] ++ List.drop (e + 1) (cntC ys k) = cntC (ys ++ [g]) k := by
 rw [← cntC_set ys g k h hg, List.set_eq_take_append_cons_drop, if_pos (by rw [cntC_len]; exact h), List.append_assoc]; rfl
theorem cnt_wrap {ys : List (List Int)} (k : Nat) (d : Int) (h : ys.length ≤ 100000) : IntKind.i64.wrap ((cntD ys k d : Int) + 1) = ((cntD ys k d + 1 : Nat) : Int) := by
 have := cntD_le ys k d
 rw [wrap_in (by omega) (by omega)]; omega
end Go.Ow
namespace Go.Proofs.YtdkboibnokipaaaDoor
open Go.RowKit Go.Pm Go.Ow
theorem und_pp : Tryd.prog.underlying 107 = some (.pointer 98) := by kernel_rfl
theorem w11 : IntKind.i64.wrap 1 = 1 := by decide
theorem key_pp (a b c : Int) : keyOk Tryd.prog 106 (.agg [.int .i64 a, .int .i64 b, .int .i64 c]) = true := by kernel_rfl
theorem wAsk1_c {s : TV} {p : List (List ByteArray)} (hs : pgR s p) (hv : validB p = true) {a0 : Pl} (hL : placesP p = [a0]) : PCalls Tryd.prog 19 [s] (askT p) := by
 have hll : (placesP p).length ≤ 5 := by rw [places_len]; exact (valid_len hv).2
 have hsp := spW2_ok hs hv
 have hsz : (readG p).length ≤ 100000 := readG_size hll
 obtain ⟨R, hR⟩ : ∃ R, askT p = R := ⟨_, rfl⟩
 rw [hR]
 unfold askT at hR
 rw [hL] at hR
 have hT : lostT [a0] = .sl (plC a0) 1 false := rfl
 have hcw : ∀ (l : List PO) (ys : List (List Int)) (k : Nat), cellsW l (cntC ys k) (cntC ys k) := fun l ys k => cellsW_ts l _
 have hau : ∀ (m : Nat) (ys : List (List Int)) (k : Nat), (cntC ys k).all (PV.under m) = true := fun m ys k => all_ts m _
 refine pcalls_by Tryd.mixes hsp (fn := Tryd.f19) Tryd.func19 rfl (by kernel_rfl) (by show 1 ≤ _; decide) ?_
 simp +decide -implicitDefEqProofs (maxSteps := 4000000) only [go_sem, Tryd.f19, hL]
 refine pwpC_rangeY rfl 82 [7] [7, 2] [7, 2] ((readG p).map fun g => [dgT g]) [(2, .ptr 0 0), (3, .t (.int .i64 0)), (4, .t (.int .i64 0)), (5, .ptr 3 0), (6, .gptr 5 0 0), (7, .ptr 6 0), (27, .fnc 82 [7])]
   [.box [.t (.int .i64 0), .t (.int .i64 0), .t (.int .i64 0)], .box [.junk, .junk, .junk], .mp 84 (mapD fun _ => none), .box [.t s, .t (lostT [a0]), .mapr 2], .mpk 106 [] [], .grow 0 [.mapr 4] 106 1, .box [.t (.int .i64 0)], .box [.t s, .t (lostT [a0]), .mapr 2]]
   (fun i => if i = 0 then [.box [.t (.int .i64 0), .t (.int .i64 0), .t (.int .i64 0)], .box [.junk, .junk, .junk], .res, .box [.t s, .t (lostT [a0]), .junk], .mpk 106 [] [], .grow 0 [.mapr 4] 106 1, .box [.t (.int .i64 0)], .res] else
    [.box [.t (.int .i64 0), .t (.int .i64 0), .t (.int .i64 0)], .box [.junk, .junk, .junk], .res, .box [.t s, .t (lostT [a0]), .junk], .mpk 106 [plT a0] [.ptr 8 0], .grow 0 [.mapr 4] 106 1, .box [.t (.int .i64 i)], .res, .box (cntC ((readG p).take i) 0)]) 9 (readG p).length false .normal ?_ (by rfl) (by rfl) (by rfl) ?_ ?_ ?_ ?_ ?_ ?_ ?_ ?_ ?_ ?_
 ·simp +decide -implicitDefEqProofs (maxSteps := 4000000) only [go_sem]
 ·rfl
 ·rfl
 ·exact ⟨_, Tryd.func82, rfl, rfl⟩
 ·intro l
  obtain ⟨D', h⟩ := wReadY_c hs hv ⟨l, (readG p).map fun g => [dgT g], (readG p).length, false⟩ rfl ⟨fun i g hg => by
   rw [Nat.zero_add]
   show ((readG p).map fun g => [dgT g])[i]? = _
   rw [List.getElem?_map, hg]; rfl, by show 0 + (readG p).length ≤ (readG p).length; omega⟩
  rw [hL] at h
  exact ⟨_, _, h, rfl⟩
 ·intro x hx
  obtain ⟨g, _, rfl⟩ := List.mem_map.1 hx
  rfl
 ·intro _
  exact ⟨(List.length_map _).symm, rfl⟩
 ·intro h; cases h
 ·intro i
  by_cases h : i = 0
  ·simp only [h, if_true]; show 8 ≤ 9; decide
  ·simp only [h, if_false]; exact Nat.le_refl _
 ·intro i x hi hx
  rw [List.getElem?_map, Option.map_eq_some_iff] at hx
  obtain ⟨g, hg, rfl⟩ := hx
  have hdg := readG_dig (List.mem_of_getElem? hg)
  rw [hL] at hdg
  have hts := take_snoc hg
  have hi1 := Go.Pm.wS (k := i) (by omega)
  obtain ⟨e0, rfl, he0⟩ := dig1 hdg
  have he0' : (e0 : Int) < 10 := by omega
  have ge0 : e0 ≤ 9 := by omega
  have hg1 : dgT [(e0 : Int)] = .sl [.int .i64 e0] 1 true := rfl
  by_cases h0 : i = 0
  ·subst h0
   rw [List.take_zero, List.nil_append] at hts
   have z0 := zer_at he0
   have y0 := zer_set [(e0 : Int)] 0 he0 rfl
   simp +decide -implicitDefEqProofs (maxSteps := 4000000) only [go_sem, hg1]
   refine pwpC_loopU (A := { k : Nat // k ≤ 1 }) [5, 6, 31, 32] (fun k => [(33, .t (.int .i64 k.1))]) (fun k => match k.1 with | 0 => [(4, .mpk 106 [] [])] | _ => [(4, .mpk 106 [plT a0] [.ptr 8 0]), (8, .box (cntC [[(e0 : Int)]] 0))]) (fun k => 1 - k.1) ⟨0, by omega⟩ (by decide) (fun _ => by rfl) ?_ fun Q1 hQ1 ⟨k, hk⟩ I1 hI1 => ?_
   ·simp +decide -implicitDefEqProofs (maxSteps := 4000000) only [go_sem, w11]
   ·rcases (by omega : k = 0 ∨ k = 1) with rfl | rfl
    ·simp +decide -implicitDefEqProofs (maxSteps := 4000000) only [go_sem, hT, plC, plT, he0', Nat.mul_one, key_pp, und_pp, w11, z0, y0, ge0, hcw, hau]
     refine hI1 _ ⟨1, by omega⟩ (by simp only; omega) ?_
     simp +decide -implicitDefEqProofs (maxSteps := 4000000) only [go_sem, hT, plC, plT, hcw, hau, w11]
    ·simp +decide -implicitDefEqProofs (maxSteps := 4000000) only [go_sem]
     refine hQ1 _ _ ?_
     simp +decide -implicitDefEqProofs (maxSteps := 4000000) only [go_sem, hts, hcw, hau]
  ·obtain ⟨ys, hys⟩ : ∃ ys, (readG p).take i = ys := ⟨_, rfl⟩
   rw [hys] at hts
   have hyl : ys.length ≤ 100000 := by rw [← hys, List.length_take]; omega
   have z0 := cntC_at ys 0 he0
   have y0 := cnt_set ys [(e0 : Int)] 0 he0 rfl
   have x0 := cnt_wrap 0 (e0 : Int) hyl
   have ht9 := cntC_len ys
   simp +decide -implicitDefEqProofs (maxSteps := 4000000) only [go_sem, h0, hg1, hi1, hys]
   refine pwpC_loopU (A := { k : Nat // k ≤ 1 }) [5, 6, 31, 32] (fun k => [(33, .t (.int .i64 k.1))]) (fun k => match k.1 with | 0 => [] | _ => [(8, .box (cntC (ys ++ [[(e0 : Int)]]) 0))]) (fun k => 1 - k.1) ⟨0, by omega⟩ (by decide) (fun _ => by rfl) ?_ fun Q1 hQ1 ⟨k, hk⟩ I1 hI1 => ?_
   ·simp +decide -implicitDefEqProofs (maxSteps := 4000000) only [go_sem, hcw, hau]
   ·rcases (by omega : k = 0 ∨ k = 1) with rfl | rfl
    ·simp +decide -implicitDefEqProofs (maxSteps := 4000000) only [go_sem, hT, plC, plT, he0', Nat.mul_one, key_pp, und_pp, z0, x0, y0, ge0, ht9, hcw, hau]
     refine hI1 _ ⟨1, by omega⟩ (by simp only; omega) ?_
     simp +decide -implicitDefEqProofs (maxSteps := 4000000) only [go_sem, hT, plC, plT, hcw, hau]
    ·simp +decide -implicitDefEqProofs (maxSteps := 4000000) only [go_sem]
     refine hQ1 _ _ ?_
     simp +decide -implicitDefEqProofs (maxSteps := 4000000) only [go_sem, hts, hi1, hcw, hau]
 ·by_cases h0 : (readG p).length = 0
  ·rw [if_pos h0] at hR
   subst hR
   rw [h0]
   simp +decide -implicitDefEqProofs (maxSteps := 4000000) only [go_sem]
  ·rw [if_neg h0] at hR
   have hz : (((readG p).length : Int) == 0) = false := by simp; exact List.ne_nil_of_length_pos (by omega)
   by_cases h1 : (readG p).length = 1
   ·rw [if_pos h1] at hR
    subst hR
    rw [h1]
    simp +decide -implicitDefEqProofs (maxSteps := 4000000) only [go_sem]
   ·rw [if_neg h1] at hR
    have hz1 : (((readG p).length : Int) == 1) = false := by simp; omega
    rw [List.take_length]
    obtain ⟨ys, hys⟩ : ∃ ys, readG p = ys := ⟨_, rfl⟩
    rw [hys] at hR h0 hz hz1 hsz ⊢
    have hmo := fun k => mostTo_le ys k 10
    simp +decide -implicitDefEqProofs (maxSteps := 4000000) only [go_sem, h0, hz, hz1, hT, plC]
    refine pwpC_loopU (A := { k : Nat // k ≤ 1 }) [2, 6, 77, 78] (fun k => [(79, .t (.int .i64 k.1)), (3, .t (.int .i64 (askTo ys [a0] k.1).2))]) (fun k => [(0, .box ((plC (askTo ys [a0] k.1).1).map .t))]) (fun k => 1 - k.1) ⟨0, by omega⟩ (by decide) (fun _ => by rfl) ?_ fun Q1 hQ1 ⟨k, hk⟩ I1 hI1 => ?_
    ·simp +decide -implicitDefEqProofs (maxSteps := 4000000) only [go_sem, askTo, plC, hcw, hau]
    ·obtain ⟨⟨at0, left⟩, hat⟩ : ∃ q, askTo ys [a0] k = q := ⟨_, rfl⟩
     have has : askTo ys [a0] (k + 1) = if left = 0 ∨ mostTo ys k 10 < left then ([a0].getD k (0, 0, 0), mostTo ys k 10) else (at0, left) := by
      show (if _ then _ else _) = _
      rw [hat]
     rcases (by omega : k = 0 ∨ k = 1) with rfl | rfl
     ·simp only [hat]
      simp +decide -implicitDefEqProofs (maxSteps := 4000000) only [go_sem, plC, plT, key_pp]
      refine pwpC_loopU (A := { d : Nat // d ≤ 10 }) [2, 3, 6, 12, 77, 78, 79, 85] (fun d => [(86, .t (.int .i64 d.1)), (13, .t (.int .i64 (mostTo ys 0 d.1)))]) (fun _ => []) (fun d => 10 - d.1) ⟨0, by omega⟩ (by decide) (fun _ => by rfl) ?_ fun Q2 hQ2 ⟨d, hd⟩ I2 hI2 => ?_
      ·simp +decide -implicitDefEqProofs (maxSteps := 4000000) only [go_sem, mostTo, plT, plC, hcw, hau]
      ·by_cases hlt : (d : Int) < 10
       ·have hd1 := Go.Pm.wS (k := d) (by omega)
        have z := cntC_at ys 0 (show d < 10 by omega)
        have hmx : max (mostTo ys 0 d : Int) (cntD ys 0 (d : Int)) = ((mostTo ys 0 (d + 1) : Nat) : Int) := by
         show _ = ((max (mostTo ys 0 d) (cntD ys 0 (d : Int)) : Nat) : Int)
         omega
        simp +decide -implicitDefEqProofs (maxSteps := 4000000) only [go_sem, hlt, z, hmx]
        refine hI2 _ ⟨d + 1, by omega⟩ (by simp only; omega) ?_
        simp +decide -implicitDefEqProofs (maxSteps := 4000000) only [go_sem, hd1, plT, plC, hcw, hau]
       ·have hde : d = 10 := by omega
        subst hde
        simp +decide -implicitDefEqProofs (maxSteps := 4000000) only [go_sem]
        refine hQ2 _ _ ?_
        have hm0 := hmo 0
        by_cases hl0 : left = 0
        ·rw [if_pos (.inl hl0)] at has
         subst hl0
         simp +decide -implicitDefEqProofs (maxSteps := 4000000) only [go_sem, plC]
         refine hI1 _ ⟨1, by omega⟩ (by simp only; omega) ?_
         simp +decide -implicitDefEqProofs (maxSteps := 4000000) only [go_sem, has, plC, plT, hcw, hau]
        ·have hl0' : ((left : Int) == 0) = false := by simp; exact hl0
         by_cases hlm : mostTo ys 0 10 < left
         ·rw [if_pos (.inr hlm)] at has
          have hlm' : ((mostTo ys 0 10 : Nat) : Int) < (left : Int) := by omega
          simp +decide -implicitDefEqProofs (maxSteps := 4000000) only [go_sem, plC, hl0', hlm']
          refine hI1 _ ⟨1, by omega⟩ (by simp only; omega) ?_
          simp +decide -implicitDefEqProofs (maxSteps := 4000000) only [go_sem, has, plC, plT, hcw, hau]
         ·rw [if_neg (fun h => h.elim hl0 hlm)] at has
          have hlm' : ¬ ((mostTo ys 0 10 : Nat) : Int) < (left : Int) := by omega
          simp +decide -implicitDefEqProofs (maxSteps := 4000000) only [go_sem, plC, hl0', hlm']
          refine hI1 _ ⟨1, by omega⟩ (by simp only; omega) ?_
          simp +decide -implicitDefEqProofs (maxSteps := 4000000) only [go_sem, has, plC, plT, hcw, hau]
     ·simp only [hat]
      simp +decide -implicitDefEqProofs (maxSteps := 4000000) only [go_sem]
      refine hQ1 _ _ ?_
      have hR2 : R = .tup [plT at0, .int .i64 left, .int .i64 0] := by
       rw [← hR]
       show TV.tup [plT (askTo ys [a0] 1).1, .int .i64 (askTo ys [a0] 1).2, .int .i64 0] = _
       rw [hat]
      simp +decide -implicitDefEqProofs (maxSteps := 4000000) only [go_sem, hR2, plT, plC]
theorem wAsk2_c {s : TV} {p : List (List ByteArray)} (hs : pgR s p) (hv : validB p = true) {a0 a1 : Pl} (hL : placesP p = [a0, a1]) (ne01 : a0 ≠ a1) : PCalls Tryd.prog 19 [s] (askT p) := by
 have hll : (placesP p).length ≤ 5 := by rw [places_len]; exact (valid_len hv).2
 have hsp := spW2_ok hs hv
 have hsz : (readG p).length ≤ 100000 := readG_size hll
 obtain ⟨R, hR⟩ : ∃ R, askT p = R := ⟨_, rfl⟩
 rw [hR]
 unfold askT at hR
 rw [hL] at hR
 have nf01 := pl_ne ne01
 have nf10 := pl_ne (Ne.symm ne01)
 have hT : lostT [a0, a1] = .sl (plC a0 ++ (plC a1)) 2 false := rfl
 have hcw : ∀ (l : List PO) (ys : List (List Int)) (k : Nat), cellsW l (cntC ys k) (cntC ys k) := fun l ys k => cellsW_ts l _
 have hau : ∀ (m : Nat) (ys : List (List Int)) (k : Nat), (cntC ys k).all (PV.under m) = true := fun m ys k => all_ts m _
 refine pcalls_by Tryd.mixes hsp (fn := Tryd.f19) Tryd.func19 rfl (by kernel_rfl) (by show 1 ≤ _; decide) ?_
 simp +decide -implicitDefEqProofs (maxSteps := 4000000) only [go_sem, Tryd.f19, hL]
 refine pwpC_rangeY rfl 82 [7] [7, 2] [7, 2] ((readG p).map fun g => [dgT g]) [(2, .ptr 0 0), (3, .t (.int .i64 0)), (4, .t (.int .i64 0)), (5, .ptr 3 0), (6, .gptr 5 0 0), (7, .ptr 6 0), (27, .fnc 82 [7])]
   [.box [.t (.int .i64 0), .t (.int .i64 0), .t (.int .i64 0)], .box [.junk, .junk, .junk], .mp 84 (mapD fun _ => none), .box [.t s, .t (lostT [a0, a1]), .mapr 2], .mpk 106 [] [], .grow 0 [.mapr 4] 106 1, .box [.t (.int .i64 0)], .box [.t s, .t (lostT [a0, a1]), .mapr 2]]
   (fun i => if i = 0 then [.box [.t (.int .i64 0), .t (.int .i64 0), .t (.int .i64 0)], .box [.junk, .junk, .junk], .res, .box [.t s, .t (lostT [a0, a1]), .junk], .mpk 106 [] [], .grow 0 [.mapr 4] 106 1, .box [.t (.int .i64 0)], .res] else
    [.box [.t (.int .i64 0), .t (.int .i64 0), .t (.int .i64 0)], .box [.junk, .junk, .junk], .res, .box [.t s, .t (lostT [a0, a1]), .junk], .mpk 106 [plT a0, plT a1] [.ptr 8 0, .ptr 9 0], .grow 0 [.mapr 4] 106 1, .box [.t (.int .i64 i)], .res, .box (cntC ((readG p).take i) 0), .box (cntC ((readG p).take i) 1)]) 10 (readG p).length false .normal ?_ (by rfl) (by rfl) (by rfl) ?_ ?_ ?_ ?_ ?_ ?_ ?_ ?_ ?_ ?_
 ·simp +decide -implicitDefEqProofs (maxSteps := 4000000) only [go_sem]
 ·rfl
 ·rfl
 ·exact ⟨_, Tryd.func82, rfl, rfl⟩
 ·intro l
  obtain ⟨D', h⟩ := wReadY_c hs hv ⟨l, (readG p).map fun g => [dgT g], (readG p).length, false⟩ rfl ⟨fun i g hg => by
   rw [Nat.zero_add]
   show ((readG p).map fun g => [dgT g])[i]? = _
   rw [List.getElem?_map, hg]; rfl, by show 0 + (readG p).length ≤ (readG p).length; omega⟩
  rw [hL] at h
  exact ⟨_, _, h, rfl⟩
 ·intro x hx
  obtain ⟨g, _, rfl⟩ := List.mem_map.1 hx
  rfl
 ·intro _
  exact ⟨(List.length_map _).symm, rfl⟩
 ·intro h; cases h
 ·intro i
  by_cases h : i = 0
  ·simp only [h, if_true]; show 8 ≤ 10; decide
  ·simp only [h, if_false]; exact Nat.le_refl _
 ·intro i x hi hx
  rw [List.getElem?_map, Option.map_eq_some_iff] at hx
  obtain ⟨g, hg, rfl⟩ := hx
  have hdg := readG_dig (List.mem_of_getElem? hg)
  rw [hL] at hdg
  have hts := take_snoc hg
  have hi1 := Go.Pm.wS (k := i) (by omega)
  obtain ⟨e0, e1, rfl, he0, he1⟩ := dig2 hdg
  have he0' : (e0 : Int) < 10 := by omega
  have ge0 : e0 ≤ 9 := by omega
  have he1' : (e1 : Int) < 10 := by omega
  have ge1 : e1 ≤ 9 := by omega
  have hg1 : dgT [(e0 : Int), (e1 : Int)] = .sl [.int .i64 e0, .int .i64 e1] 2 true := rfl
  by_cases h0 : i = 0
  ·subst h0
   rw [List.take_zero, List.nil_append] at hts
   have z0 := zer_at he0
   have y0 := zer_set [(e0 : Int), (e1 : Int)] 0 he0 rfl
   have z1 := zer_at he1
   have y1 := zer_set [(e0 : Int), (e1 : Int)] 1 he1 rfl
   simp +decide -implicitDefEqProofs (maxSteps := 4000000) only [go_sem, hg1]
   refine pwpC_loopU (A := { k : Nat // k ≤ 2 }) [5, 6, 31, 32] (fun k => [(33, .t (.int .i64 k.1))]) (fun k => match k.1 with | 0 => [(4, .mpk 106 [] [])] | 1 => [(4, .mpk 106 [plT a0] [.ptr 8 0]), (8, .box (cntC [[(e0 : Int), (e1 : Int)]] 0))] | _ => [(4, .mpk 106 [plT a0, plT a1] [.ptr 8 0, .ptr 9 0]), (8, .box (cntC [[(e0 : Int), (e1 : Int)]] 0)), (9, .box (cntC [[(e0 : Int), (e1 : Int)]] 1))]) (fun k => 2 - k.1) ⟨0, by omega⟩ (by decide) (fun _ => by rfl) ?_ fun Q1 hQ1 ⟨k, hk⟩ I1 hI1 => ?_
   ·simp +decide -implicitDefEqProofs (maxSteps := 4000000) only [go_sem, w11]
   ·rcases (by omega : k = 0 ∨ k = 1 ∨ k = 2) with rfl | rfl | rfl
    ·simp +decide -implicitDefEqProofs (maxSteps := 4000000) only [go_sem, hT, plC, plT, he0', Nat.mul_one, key_pp, und_pp, w11, z0, y0, ge0, hcw, hau]
     refine hI1 _ ⟨1, by omega⟩ (by simp only; omega) ?_
     simp +decide -implicitDefEqProofs (maxSteps := 4000000) only [go_sem, hT, plC, plT, hcw, hau, w11]
    ·simp +decide -implicitDefEqProofs (maxSteps := 4000000) only [go_sem, hT, plC, plT, he1', Nat.mul_one, key_pp, und_pp, w11, z1, y1, ge1, hcw, hau, nf01]
     refine hI1 _ ⟨2, by omega⟩ (by simp only; omega) ?_
     simp +decide -implicitDefEqProofs (maxSteps := 4000000) only [go_sem, hT, plC, plT, hcw, hau, w11]
    ·simp +decide -implicitDefEqProofs (maxSteps := 4000000) only [go_sem]
     refine hQ1 _ _ ?_
     simp +decide -implicitDefEqProofs (maxSteps := 4000000) only [go_sem, hts, hcw, hau]
  ·obtain ⟨ys, hys⟩ : ∃ ys, (readG p).take i = ys := ⟨_, rfl⟩
   rw [hys] at hts
   have hyl : ys.length ≤ 100000 := by rw [← hys, List.length_take]; omega
   have z0 := cntC_at ys 0 he0
   have y0 := cnt_set ys [(e0 : Int), (e1 : Int)] 0 he0 rfl
   have x0 := cnt_wrap 0 (e0 : Int) hyl
   have z1 := cntC_at ys 1 he1
   have y1 := cnt_set ys [(e0 : Int), (e1 : Int)] 1 he1 rfl
   have x1 := cnt_wrap 1 (e1 : Int) hyl
   have ht9 := cntC_len ys
   simp +decide -implicitDefEqProofs (maxSteps := 4000000) only [go_sem, h0, hg1, hi1, hys]
   refine pwpC_loopU (A := { k : Nat // k ≤ 2 }) [5, 6, 31, 32] (fun k => [(33, .t (.int .i64 k.1))]) (fun k => match k.1 with | 0 => [] | 1 => [(8, .box (cntC (ys ++ [[(e0 : Int), (e1 : Int)]]) 0))] | _ => [(8, .box (cntC (ys ++ [[(e0 : Int), (e1 : Int)]]) 0)), (9, .box (cntC (ys ++ [[(e0 : Int), (e1 : Int)]]) 1))]) (fun k => 2 - k.1) ⟨0, by omega⟩ (by decide) (fun _ => by rfl) ?_ fun Q1 hQ1 ⟨k, hk⟩ I1 hI1 => ?_
   ·simp +decide -implicitDefEqProofs (maxSteps := 4000000) only [go_sem, hcw, hau]
   ·rcases (by omega : k = 0 ∨ k = 1 ∨ k = 2) with rfl | rfl | rfl
    ·simp +decide -implicitDefEqProofs (maxSteps := 4000000) only [go_sem, hT, plC, plT, he0', Nat.mul_one, key_pp, und_pp, z0, x0, y0, ge0, ht9, hcw, hau]
     refine hI1 _ ⟨1, by omega⟩ (by simp only; omega) ?_
     simp +decide -implicitDefEqProofs (maxSteps := 4000000) only [go_sem, hT, plC, plT, hcw, hau]
    ·simp +decide -implicitDefEqProofs (maxSteps := 4000000) only [go_sem, hT, plC, plT, he1', Nat.mul_one, key_pp, und_pp, z1, x1, y1, ge1, ht9, hcw, hau, nf01]
     refine hI1 _ ⟨2, by omega⟩ (by simp only; omega) ?_
     simp +decide -implicitDefEqProofs (maxSteps := 4000000) only [go_sem, hT, plC, plT, hcw, hau]
    ·simp +decide -implicitDefEqProofs (maxSteps := 4000000) only [go_sem]
     refine hQ1 _ _ ?_
     simp +decide -implicitDefEqProofs (maxSteps := 4000000) only [go_sem, hts, hi1, hcw, hau]
 ·by_cases h0 : (readG p).length = 0
  ·rw [if_pos h0] at hR
   subst hR
   rw [h0]
   simp +decide -implicitDefEqProofs (maxSteps := 4000000) only [go_sem]
  ·rw [if_neg h0] at hR
   have hz : (((readG p).length : Int) == 0) = false := by simp; exact List.ne_nil_of_length_pos (by omega)
   by_cases h1 : (readG p).length = 1
   ·rw [if_pos h1] at hR
    subst hR
    rw [h1]
    simp +decide -implicitDefEqProofs (maxSteps := 4000000) only [go_sem]
   ·rw [if_neg h1] at hR
    have hz1 : (((readG p).length : Int) == 1) = false := by simp; omega
    rw [List.take_length]
    obtain ⟨ys, hys⟩ : ∃ ys, readG p = ys := ⟨_, rfl⟩
    rw [hys] at hR h0 hz hz1 hsz ⊢
    have hmo := fun k => mostTo_le ys k 10
    simp +decide -implicitDefEqProofs (maxSteps := 4000000) only [go_sem, h0, hz, hz1, hT, plC]
    refine pwpC_loopU (A := { k : Nat // k ≤ 2 }) [2, 6, 77, 78] (fun k => [(79, .t (.int .i64 k.1)), (3, .t (.int .i64 (askTo ys [a0, a1] k.1).2))]) (fun k => [(0, .box ((plC (askTo ys [a0, a1] k.1).1).map .t))]) (fun k => 2 - k.1) ⟨0, by omega⟩ (by decide) (fun _ => by rfl) ?_ fun Q1 hQ1 ⟨k, hk⟩ I1 hI1 => ?_
    ·simp +decide -implicitDefEqProofs (maxSteps := 4000000) only [go_sem, askTo, plC, hcw, hau]
    ·obtain ⟨⟨at0, left⟩, hat⟩ : ∃ q, askTo ys [a0, a1] k = q := ⟨_, rfl⟩
     have has : askTo ys [a0, a1] (k + 1) = if left = 0 ∨ mostTo ys k 10 < left then ([a0, a1].getD k (0, 0, 0), mostTo ys k 10) else (at0, left) := by
      show (if _ then _ else _) = _
      rw [hat]
     rcases (by omega : k = 0 ∨ k = 1 ∨ k = 2) with rfl | rfl | rfl
     ·simp only [hat]
      simp +decide -implicitDefEqProofs (maxSteps := 4000000) only [go_sem, plC, plT, key_pp]
      refine pwpC_loopU (A := { d : Nat // d ≤ 10 }) [2, 3, 6, 12, 77, 78, 79, 85] (fun d => [(86, .t (.int .i64 d.1)), (13, .t (.int .i64 (mostTo ys 0 d.1)))]) (fun _ => []) (fun d => 10 - d.1) ⟨0, by omega⟩ (by decide) (fun _ => by rfl) ?_ fun Q2 hQ2 ⟨d, hd⟩ I2 hI2 => ?_
      ·simp +decide -implicitDefEqProofs (maxSteps := 4000000) only [go_sem, mostTo, plT, plC, hcw, hau]
      ·by_cases hlt : (d : Int) < 10
       ·have hd1 := Go.Pm.wS (k := d) (by omega)
        have z := cntC_at ys 0 (show d < 10 by omega)
        have hmx : max (mostTo ys 0 d : Int) (cntD ys 0 (d : Int)) = ((mostTo ys 0 (d + 1) : Nat) : Int) := by
         show _ = ((max (mostTo ys 0 d) (cntD ys 0 (d : Int)) : Nat) : Int)
         omega
        simp +decide -implicitDefEqProofs (maxSteps := 4000000) only [go_sem, hlt, z, hmx]
        refine hI2 _ ⟨d + 1, by omega⟩ (by simp only; omega) ?_
        simp +decide -implicitDefEqProofs (maxSteps := 4000000) only [go_sem, hd1, plT, plC, hcw, hau]
       ·have hde : d = 10 := by omega
        subst hde
        simp +decide -implicitDefEqProofs (maxSteps := 4000000) only [go_sem]
        refine hQ2 _ _ ?_
        have hm0 := hmo 0
        by_cases hl0 : left = 0
        ·rw [if_pos (.inl hl0)] at has
         subst hl0
         simp +decide -implicitDefEqProofs (maxSteps := 4000000) only [go_sem, plC]
         refine hI1 _ ⟨1, by omega⟩ (by simp only; omega) ?_
         simp +decide -implicitDefEqProofs (maxSteps := 4000000) only [go_sem, has, plC, plT, hcw, hau]
        ·have hl0' : ((left : Int) == 0) = false := by simp; exact hl0
         by_cases hlm : mostTo ys 0 10 < left
         ·rw [if_pos (.inr hlm)] at has
          have hlm' : ((mostTo ys 0 10 : Nat) : Int) < (left : Int) := by omega
          simp +decide -implicitDefEqProofs (maxSteps := 4000000) only [go_sem, plC, hl0', hlm']
          refine hI1 _ ⟨1, by omega⟩ (by simp only; omega) ?_
          simp +decide -implicitDefEqProofs (maxSteps := 4000000) only [go_sem, has, plC, plT, hcw, hau]
         ·rw [if_neg (fun h => h.elim hl0 hlm)] at has
          have hlm' : ¬ ((mostTo ys 0 10 : Nat) : Int) < (left : Int) := by omega
          simp +decide -implicitDefEqProofs (maxSteps := 4000000) only [go_sem, plC, hl0', hlm']
          refine hI1 _ ⟨1, by omega⟩ (by simp only; omega) ?_
          simp +decide -implicitDefEqProofs (maxSteps := 4000000) only [go_sem, has, plC, plT, hcw, hau]
     ·simp only [hat]
      simp +decide -implicitDefEqProofs (maxSteps := 4000000) only [go_sem, plC, plT, key_pp, nf01]
      refine pwpC_loopU (A := { d : Nat // d ≤ 10 }) [2, 3, 6, 12, 77, 78, 79, 85] (fun d => [(86, .t (.int .i64 d.1)), (13, .t (.int .i64 (mostTo ys 1 d.1)))]) (fun _ => []) (fun d => 10 - d.1) ⟨0, by omega⟩ (by decide) (fun _ => by rfl) ?_ fun Q2 hQ2 ⟨d, hd⟩ I2 hI2 => ?_
      ·simp +decide -implicitDefEqProofs (maxSteps := 4000000) only [go_sem, mostTo, plT, plC, hcw, hau]
      ·by_cases hlt : (d : Int) < 10
       ·have hd1 := Go.Pm.wS (k := d) (by omega)
        have z := cntC_at ys 1 (show d < 10 by omega)
        have hmx : max (mostTo ys 1 d : Int) (cntD ys 1 (d : Int)) = ((mostTo ys 1 (d + 1) : Nat) : Int) := by
         show _ = ((max (mostTo ys 1 d) (cntD ys 1 (d : Int)) : Nat) : Int)
         omega
        simp +decide -implicitDefEqProofs (maxSteps := 4000000) only [go_sem, hlt, z, hmx]
        refine hI2 _ ⟨d + 1, by omega⟩ (by simp only; omega) ?_
        simp +decide -implicitDefEqProofs (maxSteps := 4000000) only [go_sem, hd1, plT, plC, hcw, hau]
       ·have hde : d = 10 := by omega
        subst hde
        simp +decide -implicitDefEqProofs (maxSteps := 4000000) only [go_sem]
        refine hQ2 _ _ ?_
        have hm0 := hmo 1
        by_cases hl0 : left = 0
        ·rw [if_pos (.inl hl0)] at has
         subst hl0
         simp +decide -implicitDefEqProofs (maxSteps := 4000000) only [go_sem, plC]
         refine hI1 _ ⟨2, by omega⟩ (by simp only; omega) ?_
         simp +decide -implicitDefEqProofs (maxSteps := 4000000) only [go_sem, has, plC, plT, hcw, hau]
        ·have hl0' : ((left : Int) == 0) = false := by simp; exact hl0
         by_cases hlm : mostTo ys 1 10 < left
         ·rw [if_pos (.inr hlm)] at has
          have hlm' : ((mostTo ys 1 10 : Nat) : Int) < (left : Int) := by omega
          simp +decide -implicitDefEqProofs (maxSteps := 4000000) only [go_sem, plC, hl0', hlm']
          refine hI1 _ ⟨2, by omega⟩ (by simp only; omega) ?_
          simp +decide -implicitDefEqProofs (maxSteps := 4000000) only [go_sem, has, plC, plT, hcw, hau]
         ·rw [if_neg (fun h => h.elim hl0 hlm)] at has
          have hlm' : ¬ ((mostTo ys 1 10 : Nat) : Int) < (left : Int) := by omega
          simp +decide -implicitDefEqProofs (maxSteps := 4000000) only [go_sem, plC, hl0', hlm']
          refine hI1 _ ⟨2, by omega⟩ (by simp only; omega) ?_
          simp +decide -implicitDefEqProofs (maxSteps := 4000000) only [go_sem, has, plC, plT, hcw, hau]
     ·simp only [hat]
      simp +decide -implicitDefEqProofs (maxSteps := 4000000) only [go_sem]
      refine hQ1 _ _ ?_
      have hR2 : R = .tup [plT at0, .int .i64 left, .int .i64 0] := by
       rw [← hR]
       show TV.tup [plT (askTo ys [a0, a1] 2).1, .int .i64 (askTo ys [a0, a1] 2).2, .int .i64 0] = _
       rw [hat]
      simp +decide -implicitDefEqProofs (maxSteps := 4000000) only [go_sem, hR2, plT, plC]
theorem wAsk3_c {s : TV} {p : List (List ByteArray)} (hs : pgR s p) (hv : validB p = true) {a0 a1 a2 : Pl} (hL : placesP p = [a0, a1, a2]) (ne01 : a0 ≠ a1) (ne02 : a0 ≠ a2) (ne12 : a1 ≠ a2) : PCalls Tryd.prog 19 [s] (askT p) := by
 have hll : (placesP p).length ≤ 5 := by rw [places_len]; exact (valid_len hv).2
 have hsp := spW2_ok hs hv
 have hsz : (readG p).length ≤ 100000 := readG_size hll
 obtain ⟨R, hR⟩ : ∃ R, askT p = R := ⟨_, rfl⟩
 rw [hR]
 unfold askT at hR
 rw [hL] at hR
 have nf01 := pl_ne ne01
 have nf10 := pl_ne (Ne.symm ne01)
 have nf02 := pl_ne ne02
 have nf20 := pl_ne (Ne.symm ne02)
 have nf12 := pl_ne ne12
 have nf21 := pl_ne (Ne.symm ne12)
 have hT : lostT [a0, a1, a2] = .sl (plC a0 ++ (plC a1 ++ (plC a2))) 3 false := rfl
 have hcw : ∀ (l : List PO) (ys : List (List Int)) (k : Nat), cellsW l (cntC ys k) (cntC ys k) := fun l ys k => cellsW_ts l _
 have hau : ∀ (m : Nat) (ys : List (List Int)) (k : Nat), (cntC ys k).all (PV.under m) = true := fun m ys k => all_ts m _
 refine pcalls_by Tryd.mixes hsp (fn := Tryd.f19) Tryd.func19 rfl (by kernel_rfl) (by show 1 ≤ _; decide) ?_
 simp +decide -implicitDefEqProofs (maxSteps := 4000000) only [go_sem, Tryd.f19, hL]
 refine pwpC_rangeY rfl 82 [7] [7, 2] [7, 2] ((readG p).map fun g => [dgT g]) [(2, .ptr 0 0), (3, .t (.int .i64 0)), (4, .t (.int .i64 0)), (5, .ptr 3 0), (6, .gptr 5 0 0), (7, .ptr 6 0), (27, .fnc 82 [7])]
   [.box [.t (.int .i64 0), .t (.int .i64 0), .t (.int .i64 0)], .box [.junk, .junk, .junk], .mp 84 (mapD fun _ => none), .box [.t s, .t (lostT [a0, a1, a2]), .mapr 2], .mpk 106 [] [], .grow 0 [.mapr 4] 106 1, .box [.t (.int .i64 0)], .box [.t s, .t (lostT [a0, a1, a2]), .mapr 2]]
   (fun i => if i = 0 then [.box [.t (.int .i64 0), .t (.int .i64 0), .t (.int .i64 0)], .box [.junk, .junk, .junk], .res, .box [.t s, .t (lostT [a0, a1, a2]), .junk], .mpk 106 [] [], .grow 0 [.mapr 4] 106 1, .box [.t (.int .i64 0)], .res] else
    [.box [.t (.int .i64 0), .t (.int .i64 0), .t (.int .i64 0)], .box [.junk, .junk, .junk], .res, .box [.t s, .t (lostT [a0, a1, a2]), .junk], .mpk 106 [plT a0, plT a1, plT a2] [.ptr 8 0, .ptr 9 0, .ptr 10 0], .grow 0 [.mapr 4] 106 1, .box [.t (.int .i64 i)], .res, .box (cntC ((readG p).take i) 0), .box (cntC ((readG p).take i) 1), .box (cntC ((readG p).take i) 2)]) 11 (readG p).length false .normal ?_ (by rfl) (by rfl) (by rfl) ?_ ?_ ?_ ?_ ?_ ?_ ?_ ?_ ?_ ?_
 ·simp +decide -implicitDefEqProofs (maxSteps := 4000000) only [go_sem]
 ·rfl
 ·rfl
 ·exact ⟨_, Tryd.func82, rfl, rfl⟩
 ·intro l
  obtain ⟨D', h⟩ := wReadY_c hs hv ⟨l, (readG p).map fun g => [dgT g], (readG p).length, false⟩ rfl ⟨fun i g hg => by
   rw [Nat.zero_add]
   show ((readG p).map fun g => [dgT g])[i]? = _
   rw [List.getElem?_map, hg]; rfl, by show 0 + (readG p).length ≤ (readG p).length; omega⟩
  rw [hL] at h
  exact ⟨_, _, h, rfl⟩
 ·intro x hx
  obtain ⟨g, _, rfl⟩ := List.mem_map.1 hx
  rfl
 ·intro _
  exact ⟨(List.length_map _).symm, rfl⟩
 ·intro h; cases h
 ·intro i
  by_cases h : i = 0
  ·simp only [h, if_true]; show 8 ≤ 11; decide
  ·simp only [h, if_false]; exact Nat.le_refl _
 ·intro i x hi hx
  rw [List.getElem?_map, Option.map_eq_some_iff] at hx
  obtain ⟨g, hg, rfl⟩ := hx
  have hdg := readG_dig (List.mem_of_getElem? hg)
  rw [hL] at hdg
  have hts := take_snoc hg
  have hi1 := Go.Pm.wS (k := i) (by omega)
  obtain ⟨e0, e1, e2, rfl, he0, he1, he2⟩ := dig3 hdg
  have he0' : (e0 : Int) < 10 := by omega
  have ge0 : e0 ≤ 9 := by omega
  have he1' : (e1 : Int) < 10 := by omega
  have ge1 : e1 ≤ 9 := by omega
  have he2' : (e2 : Int) < 10 := by omega
  have ge2 : e2 ≤ 9 := by omega
  have hg1 : dgT [(e0 : Int), (e1 : Int), (e2 : Int)] = .sl [.int .i64 e0, .int .i64 e1, .int .i64 e2] 3 true := rfl
  by_cases h0 : i = 0
  ·subst h0
   rw [List.take_zero, List.nil_append] at hts
   have z0 := zer_at he0
   have y0 := zer_set [(e0 : Int), (e1 : Int), (e2 : Int)] 0 he0 rfl
   have z1 := zer_at he1
   have y1 := zer_set [(e0 : Int), (e1 : Int), (e2 : Int)] 1 he1 rfl
   have z2 := zer_at he2
   have y2 := zer_set [(e0 : Int), (e1 : Int), (e2 : Int)] 2 he2 rfl
   simp +decide -implicitDefEqProofs (maxSteps := 4000000) only [go_sem, hg1]
   refine pwpC_loopU (A := { k : Nat // k ≤ 3 }) [5, 6, 31, 32] (fun k => [(33, .t (.int .i64 k.1))]) (fun k => match k.1 with | 0 => [(4, .mpk 106 [] [])] | 1 => [(4, .mpk 106 [plT a0] [.ptr 8 0]), (8, .box (cntC [[(e0 : Int), (e1 : Int), (e2 : Int)]] 0))] | 2 => [(4, .mpk 106 [plT a0, plT a1] [.ptr 8 0, .ptr 9 0]), (8, .box (cntC [[(e0 : Int), (e1 : Int), (e2 : Int)]] 0)), (9, .box (cntC [[(e0 : Int), (e1 : Int), (e2 : Int)]] 1))] | _ => [(4, .mpk 106 [plT a0, plT a1, plT a2] [.ptr 8 0, .ptr 9 0, .ptr 10 0]), (8, .box (cntC [[(e0 : Int), (e1 : Int), (e2 : Int)]] 0)), (9, .box (cntC [[(e0 : Int), (e1 : Int), (e2 : Int)]] 1)), (10, .box (cntC [[(e0 : Int), (e1 : Int), (e2 : Int)]] 2))]) (fun k => 3 - k.1) ⟨0, by omega⟩ (by decide) (fun _ => by rfl) ?_ fun Q1 hQ1 ⟨k, hk⟩ I1 hI1 => ?_
   ·simp +decide -implicitDefEqProofs (maxSteps := 4000000) only [go_sem, w11]
   ·rcases (by omega : k = 0 ∨ k = 1 ∨ k = 2 ∨ k = 3) with rfl | rfl | rfl | rfl
    ·simp +decide -implicitDefEqProofs (maxSteps := 4000000) only [go_sem, hT, plC, plT, he0', Nat.mul_one, key_pp, und_pp, w11, z0, y0, ge0, hcw, hau]
     refine hI1 _ ⟨1, by omega⟩ (by simp only; omega) ?_
     simp +decide -implicitDefEqProofs (maxSteps := 4000000) only [go_sem, hT, plC, plT, hcw, hau, w11]
    ·simp +decide -implicitDefEqProofs (maxSteps := 4000000) only [go_sem, hT, plC, plT, he1', Nat.mul_one, key_pp, und_pp, w11, z1, y1, ge1, hcw, hau, nf01]
     refine hI1 _ ⟨2, by omega⟩ (by simp only; omega) ?_
     simp +decide -implicitDefEqProofs (maxSteps := 4000000) only [go_sem, hT, plC, plT, hcw, hau, w11]
    ·simp +decide -implicitDefEqProofs (maxSteps := 4000000) only [go_sem, hT, plC, plT, he2', Nat.mul_one, key_pp, und_pp, w11, z2, y2, ge2, hcw, hau, nf02, nf12]
     refine hI1 _ ⟨3, by omega⟩ (by simp only; omega) ?_
     simp +decide -implicitDefEqProofs (maxSteps := 4000000) only [go_sem, hT, plC, plT, hcw, hau, w11]
    ·simp +decide -implicitDefEqProofs (maxSteps := 4000000) only [go_sem]
     refine hQ1 _ _ ?_
     simp +decide -implicitDefEqProofs (maxSteps := 4000000) only [go_sem, hts, hcw, hau]
  ·obtain ⟨ys, hys⟩ : ∃ ys, (readG p).take i = ys := ⟨_, rfl⟩
   rw [hys] at hts
   have hyl : ys.length ≤ 100000 := by rw [← hys, List.length_take]; omega
   have z0 := cntC_at ys 0 he0
   have y0 := cnt_set ys [(e0 : Int), (e1 : Int), (e2 : Int)] 0 he0 rfl
   have x0 := cnt_wrap 0 (e0 : Int) hyl
   have z1 := cntC_at ys 1 he1
   have y1 := cnt_set ys [(e0 : Int), (e1 : Int), (e2 : Int)] 1 he1 rfl
   have x1 := cnt_wrap 1 (e1 : Int) hyl
   have z2 := cntC_at ys 2 he2
   have y2 := cnt_set ys [(e0 : Int), (e1 : Int), (e2 : Int)] 2 he2 rfl
   have x2 := cnt_wrap 2 (e2 : Int) hyl
   have ht9 := cntC_len ys
   simp +decide -implicitDefEqProofs (maxSteps := 4000000) only [go_sem, h0, hg1, hi1, hys]
   refine pwpC_loopU (A := { k : Nat // k ≤ 3 }) [5, 6, 31, 32] (fun k => [(33, .t (.int .i64 k.1))]) (fun k => match k.1 with | 0 => [] | 1 => [(8, .box (cntC (ys ++ [[(e0 : Int), (e1 : Int), (e2 : Int)]]) 0))] | 2 => [(8, .box (cntC (ys ++ [[(e0 : Int), (e1 : Int), (e2 : Int)]]) 0)), (9, .box (cntC (ys ++ [[(e0 : Int), (e1 : Int), (e2 : Int)]]) 1))] | _ => [(8, .box (cntC (ys ++ [[(e0 : Int), (e1 : Int), (e2 : Int)]]) 0)), (9, .box (cntC (ys ++ [[(e0 : Int), (e1 : Int), (e2 : Int)]]) 1)), (10, .box (cntC (ys ++ [[(e0 : Int), (e1 : Int), (e2 : Int)]]) 2))]) (fun k => 3 - k.1) ⟨0, by omega⟩ (by decide) (fun _ => by rfl) ?_ fun Q1 hQ1 ⟨k, hk⟩ I1 hI1 => ?_
   ·simp +decide -implicitDefEqProofs (maxSteps := 4000000) only [go_sem, hcw, hau]
   ·rcases (by omega : k = 0 ∨ k = 1 ∨ k = 2 ∨ k = 3) with rfl | rfl | rfl | rfl
    ·simp +decide -implicitDefEqProofs (maxSteps := 4000000) only [go_sem, hT, plC, plT, he0', Nat.mul_one, key_pp, und_pp, z0, x0, y0, ge0, ht9, hcw, hau]
     refine hI1 _ ⟨1, by omega⟩ (by simp only; omega) ?_
     simp +decide -implicitDefEqProofs (maxSteps := 4000000) only [go_sem, hT, plC, plT, hcw, hau]
    ·simp +decide -implicitDefEqProofs (maxSteps := 4000000) only [go_sem, hT, plC, plT, he1', Nat.mul_one, key_pp, und_pp, z1, x1, y1, ge1, ht9, hcw, hau, nf01]
     refine hI1 _ ⟨2, by omega⟩ (by simp only; omega) ?_
     simp +decide -implicitDefEqProofs (maxSteps := 4000000) only [go_sem, hT, plC, plT, hcw, hau]
    ·simp +decide -implicitDefEqProofs (maxSteps := 4000000) only [go_sem, hT, plC, plT, he2', Nat.mul_one, key_pp, und_pp, z2, x2, y2, ge2, ht9, hcw, hau, nf02, nf12]
     refine hI1 _ ⟨3, by omega⟩ (by simp only; omega) ?_
     simp +decide -implicitDefEqProofs (maxSteps := 4000000) only [go_sem, hT, plC, plT, hcw, hau]
    ·simp +decide -implicitDefEqProofs (maxSteps := 4000000) only [go_sem]
     refine hQ1 _ _ ?_
     simp +decide -implicitDefEqProofs (maxSteps := 4000000) only [go_sem, hts, hi1, hcw, hau]
 ·by_cases h0 : (readG p).length = 0
  ·rw [if_pos h0] at hR
   subst hR
   rw [h0]
   simp +decide -implicitDefEqProofs (maxSteps := 4000000) only [go_sem]
  ·rw [if_neg h0] at hR
   have hz : (((readG p).length : Int) == 0) = false := by simp; exact List.ne_nil_of_length_pos (by omega)
   by_cases h1 : (readG p).length = 1
   ·rw [if_pos h1] at hR
    subst hR
    rw [h1]
    simp +decide -implicitDefEqProofs (maxSteps := 4000000) only [go_sem]
   ·rw [if_neg h1] at hR
    have hz1 : (((readG p).length : Int) == 1) = false := by simp; omega
    rw [List.take_length]
    obtain ⟨ys, hys⟩ : ∃ ys, readG p = ys := ⟨_, rfl⟩
    rw [hys] at hR h0 hz hz1 hsz ⊢
    have hmo := fun k => mostTo_le ys k 10
    simp +decide -implicitDefEqProofs (maxSteps := 4000000) only [go_sem, h0, hz, hz1, hT, plC]
    refine pwpC_loopU (A := { k : Nat // k ≤ 3 }) [2, 6, 77, 78] (fun k => [(79, .t (.int .i64 k.1)), (3, .t (.int .i64 (askTo ys [a0, a1, a2] k.1).2))]) (fun k => [(0, .box ((plC (askTo ys [a0, a1, a2] k.1).1).map .t))]) (fun k => 3 - k.1) ⟨0, by omega⟩ (by decide) (fun _ => by rfl) ?_ fun Q1 hQ1 ⟨k, hk⟩ I1 hI1 => ?_
    ·simp +decide -implicitDefEqProofs (maxSteps := 4000000) only [go_sem, askTo, plC, hcw, hau]
    ·obtain ⟨⟨at0, left⟩, hat⟩ : ∃ q, askTo ys [a0, a1, a2] k = q := ⟨_, rfl⟩
     have has : askTo ys [a0, a1, a2] (k + 1) = if left = 0 ∨ mostTo ys k 10 < left then ([a0, a1, a2].getD k (0, 0, 0), mostTo ys k 10) else (at0, left) := by
      show (if _ then _ else _) = _
      rw [hat]
     rcases (by omega : k = 0 ∨ k = 1 ∨ k = 2 ∨ k = 3) with rfl | rfl | rfl | rfl
     ·simp only [hat]
      simp +decide -implicitDefEqProofs (maxSteps := 4000000) only [go_sem, plC, plT, key_pp]
      refine pwpC_loopU (A := { d : Nat // d ≤ 10 }) [2, 3, 6, 12, 77, 78, 79, 85] (fun d => [(86, .t (.int .i64 d.1)), (13, .t (.int .i64 (mostTo ys 0 d.1)))]) (fun _ => []) (fun d => 10 - d.1) ⟨0, by omega⟩ (by decide) (fun _ => by rfl) ?_ fun Q2 hQ2 ⟨d, hd⟩ I2 hI2 => ?_
      ·simp +decide -implicitDefEqProofs (maxSteps := 4000000) only [go_sem, mostTo, plT, plC, hcw, hau]
      ·by_cases hlt : (d : Int) < 10
       ·have hd1 := Go.Pm.wS (k := d) (by omega)
        have z := cntC_at ys 0 (show d < 10 by omega)
        have hmx : max (mostTo ys 0 d : Int) (cntD ys 0 (d : Int)) = ((mostTo ys 0 (d + 1) : Nat) : Int) := by
         show _ = ((max (mostTo ys 0 d) (cntD ys 0 (d : Int)) : Nat) : Int)
         omega
        simp +decide -implicitDefEqProofs (maxSteps := 4000000) only [go_sem, hlt, z, hmx]
        refine hI2 _ ⟨d + 1, by omega⟩ (by simp only; omega) ?_
        simp +decide -implicitDefEqProofs (maxSteps := 4000000) only [go_sem, hd1, plT, plC, hcw, hau]
       ·have hde : d = 10 := by omega
        subst hde
        simp +decide -implicitDefEqProofs (maxSteps := 4000000) only [go_sem]
        refine hQ2 _ _ ?_
        have hm0 := hmo 0
        by_cases hl0 : left = 0
        ·rw [if_pos (.inl hl0)] at has
         subst hl0
         simp +decide -implicitDefEqProofs (maxSteps := 4000000) only [go_sem, plC]
         refine hI1 _ ⟨1, by omega⟩ (by simp only; omega) ?_
         simp +decide -implicitDefEqProofs (maxSteps := 4000000) only [go_sem, has, plC, plT, hcw, hau]
        ·have hl0' : ((left : Int) == 0) = false := by simp; exact hl0
         by_cases hlm : mostTo ys 0 10 < left
         ·rw [if_pos (.inr hlm)] at has
          have hlm' : ((mostTo ys 0 10 : Nat) : Int) < (left : Int) := by omega
          simp +decide -implicitDefEqProofs (maxSteps := 4000000) only [go_sem, plC, hl0', hlm']
          refine hI1 _ ⟨1, by omega⟩ (by simp only; omega) ?_
          simp +decide -implicitDefEqProofs (maxSteps := 4000000) only [go_sem, has, plC, plT, hcw, hau]
         ·rw [if_neg (fun h => h.elim hl0 hlm)] at has
          have hlm' : ¬ ((mostTo ys 0 10 : Nat) : Int) < (left : Int) := by omega
          simp +decide -implicitDefEqProofs (maxSteps := 4000000) only [go_sem, plC, hl0', hlm']
          refine hI1 _ ⟨1, by omega⟩ (by simp only; omega) ?_
          simp +decide -implicitDefEqProofs (maxSteps := 4000000) only [go_sem, has, plC, plT, hcw, hau]
     ·simp only [hat]
      simp +decide -implicitDefEqProofs (maxSteps := 4000000) only [go_sem, plC, plT, key_pp, nf01]
      refine pwpC_loopU (A := { d : Nat // d ≤ 10 }) [2, 3, 6, 12, 77, 78, 79, 85] (fun d => [(86, .t (.int .i64 d.1)), (13, .t (.int .i64 (mostTo ys 1 d.1)))]) (fun _ => []) (fun d => 10 - d.1) ⟨0, by omega⟩ (by decide) (fun _ => by rfl) ?_ fun Q2 hQ2 ⟨d, hd⟩ I2 hI2 => ?_
      ·simp +decide -implicitDefEqProofs (maxSteps := 4000000) only [go_sem, mostTo, plT, plC, hcw, hau]
      ·by_cases hlt : (d : Int) < 10
       ·have hd1 := Go.Pm.wS (k := d) (by omega)
        have z := cntC_at ys 1 (show d < 10 by omega)
        have hmx : max (mostTo ys 1 d : Int) (cntD ys 1 (d : Int)) = ((mostTo ys 1 (d + 1) : Nat) : Int) := by
         show _ = ((max (mostTo ys 1 d) (cntD ys 1 (d : Int)) : Nat) : Int)
         omega
        simp +decide -implicitDefEqProofs (maxSteps := 4000000) only [go_sem, hlt, z, hmx]
        refine hI2 _ ⟨d + 1, by omega⟩ (by simp only; omega) ?_
        simp +decide -implicitDefEqProofs (maxSteps := 4000000) only [go_sem, hd1, plT, plC, hcw, hau]
       ·have hde : d = 10 := by omega
        subst hde
        simp +decide -implicitDefEqProofs (maxSteps := 4000000) only [go_sem]
        refine hQ2 _ _ ?_
        have hm0 := hmo 1
        by_cases hl0 : left = 0
        ·rw [if_pos (.inl hl0)] at has
         subst hl0
         simp +decide -implicitDefEqProofs (maxSteps := 4000000) only [go_sem, plC]
         refine hI1 _ ⟨2, by omega⟩ (by simp only; omega) ?_
         simp +decide -implicitDefEqProofs (maxSteps := 4000000) only [go_sem, has, plC, plT, hcw, hau]
        ·have hl0' : ((left : Int) == 0) = false := by simp; exact hl0
         by_cases hlm : mostTo ys 1 10 < left
         ·rw [if_pos (.inr hlm)] at has
          have hlm' : ((mostTo ys 1 10 : Nat) : Int) < (left : Int) := by omega
          simp +decide -implicitDefEqProofs (maxSteps := 4000000) only [go_sem, plC, hl0', hlm']
          refine hI1 _ ⟨2, by omega⟩ (by simp only; omega) ?_
          simp +decide -implicitDefEqProofs (maxSteps := 4000000) only [go_sem, has, plC, plT, hcw, hau]
         ·rw [if_neg (fun h => h.elim hl0 hlm)] at has
          have hlm' : ¬ ((mostTo ys 1 10 : Nat) : Int) < (left : Int) := by omega
          simp +decide -implicitDefEqProofs (maxSteps := 4000000) only [go_sem, plC, hl0', hlm']
          refine hI1 _ ⟨2, by omega⟩ (by simp only; omega) ?_
          simp +decide -implicitDefEqProofs (maxSteps := 4000000) only [go_sem, has, plC, plT, hcw, hau]
     ·simp only [hat]
      simp +decide -implicitDefEqProofs (maxSteps := 4000000) only [go_sem, plC, plT, key_pp, nf02, nf12]
      refine pwpC_loopU (A := { d : Nat // d ≤ 10 }) [2, 3, 6, 12, 77, 78, 79, 85] (fun d => [(86, .t (.int .i64 d.1)), (13, .t (.int .i64 (mostTo ys 2 d.1)))]) (fun _ => []) (fun d => 10 - d.1) ⟨0, by omega⟩ (by decide) (fun _ => by rfl) ?_ fun Q2 hQ2 ⟨d, hd⟩ I2 hI2 => ?_
      ·simp +decide -implicitDefEqProofs (maxSteps := 4000000) only [go_sem, mostTo, plT, plC, hcw, hau]
      ·by_cases hlt : (d : Int) < 10
       ·have hd1 := Go.Pm.wS (k := d) (by omega)
        have z := cntC_at ys 2 (show d < 10 by omega)
        have hmx : max (mostTo ys 2 d : Int) (cntD ys 2 (d : Int)) = ((mostTo ys 2 (d + 1) : Nat) : Int) := by
         show _ = ((max (mostTo ys 2 d) (cntD ys 2 (d : Int)) : Nat) : Int)
         omega
        simp +decide -implicitDefEqProofs (maxSteps := 4000000) only [go_sem, hlt, z, hmx]
        refine hI2 _ ⟨d + 1, by omega⟩ (by simp only; omega) ?_
        simp +decide -implicitDefEqProofs (maxSteps := 4000000) only [go_sem, hd1, plT, plC, hcw, hau]
       ·have hde : d = 10 := by omega
        subst hde
        simp +decide -implicitDefEqProofs (maxSteps := 4000000) only [go_sem]
        refine hQ2 _ _ ?_
        have hm0 := hmo 2
        by_cases hl0 : left = 0
        ·rw [if_pos (.inl hl0)] at has
         subst hl0
         simp +decide -implicitDefEqProofs (maxSteps := 4000000) only [go_sem, plC]
         refine hI1 _ ⟨3, by omega⟩ (by simp only; omega) ?_
         simp +decide -implicitDefEqProofs (maxSteps := 4000000) only [go_sem, has, plC, plT, hcw, hau]
        ·have hl0' : ((left : Int) == 0) = false := by simp; exact hl0
         by_cases hlm : mostTo ys 2 10 < left
         ·rw [if_pos (.inr hlm)] at has
          have hlm' : ((mostTo ys 2 10 : Nat) : Int) < (left : Int) := by omega
          simp +decide -implicitDefEqProofs (maxSteps := 4000000) only [go_sem, plC, hl0', hlm']
          refine hI1 _ ⟨3, by omega⟩ (by simp only; omega) ?_
          simp +decide -implicitDefEqProofs (maxSteps := 4000000) only [go_sem, has, plC, plT, hcw, hau]
         ·rw [if_neg (fun h => h.elim hl0 hlm)] at has
          have hlm' : ¬ ((mostTo ys 2 10 : Nat) : Int) < (left : Int) := by omega
          simp +decide -implicitDefEqProofs (maxSteps := 4000000) only [go_sem, plC, hl0', hlm']
          refine hI1 _ ⟨3, by omega⟩ (by simp only; omega) ?_
          simp +decide -implicitDefEqProofs (maxSteps := 4000000) only [go_sem, has, plC, plT, hcw, hau]
     ·simp only [hat]
      simp +decide -implicitDefEqProofs (maxSteps := 4000000) only [go_sem]
      refine hQ1 _ _ ?_
      have hR2 : R = .tup [plT at0, .int .i64 left, .int .i64 0] := by
       rw [← hR]
       show TV.tup [plT (askTo ys [a0, a1, a2] 3).1, .int .i64 (askTo ys [a0, a1, a2] 3).2, .int .i64 0] = _
       rw [hat]
      simp +decide -implicitDefEqProofs (maxSteps := 4000000) only [go_sem, hR2, plT, plC]
theorem wAsk4_c {s : TV} {p : List (List ByteArray)} (hs : pgR s p) (hv : validB p = true) {a0 a1 a2 a3 : Pl} (hL : placesP p = [a0, a1, a2, a3]) (ne01 : a0 ≠ a1) (ne02 : a0 ≠ a2) (ne03 : a0 ≠ a3) (ne12 : a1 ≠ a2) (ne13 : a1 ≠ a3) (ne23 : a2 ≠ a3) : PCalls Tryd.prog 19 [s] (askT p) := by
 have hll : (placesP p).length ≤ 5 := by rw [places_len]; exact (valid_len hv).2
 have hsp := spW2_ok hs hv
 have hsz : (readG p).length ≤ 100000 := readG_size hll
 obtain ⟨R, hR⟩ : ∃ R, askT p = R := ⟨_, rfl⟩
 rw [hR]
 unfold askT at hR
 rw [hL] at hR
 have nf01 := pl_ne ne01
 have nf10 := pl_ne (Ne.symm ne01)
 have nf02 := pl_ne ne02
 have nf20 := pl_ne (Ne.symm ne02)
 have nf03 := pl_ne ne03
 have nf30 := pl_ne (Ne.symm ne03)
 have nf12 := pl_ne ne12
 have nf21 := pl_ne (Ne.symm ne12)
 have nf13 := pl_ne ne13
 have nf31 := pl_ne (Ne.symm ne13)
 have nf23 := pl_ne ne23
 have nf32 := pl_ne (Ne.symm ne23)
 have hT : lostT [a0, a1, a2, a3] = .sl (plC a0 ++ (plC a1 ++ (plC a2 ++ (plC a3)))) 4 false := rfl
 have hcw : ∀ (l : List PO) (ys : List (List Int)) (k : Nat), cellsW l (cntC ys k) (cntC ys k) := fun l ys k => cellsW_ts l _
 have hau : ∀ (m : Nat) (ys : List (List Int)) (k : Nat), (cntC ys k).all (PV.under m) = true := fun m ys k => all_ts m _
 refine pcalls_by Tryd.mixes hsp (fn := Tryd.f19) Tryd.func19 rfl (by kernel_rfl) (by show 1 ≤ _; decide) ?_
 simp +decide -implicitDefEqProofs (maxSteps := 4000000) only [go_sem, Tryd.f19, hL]
 refine pwpC_rangeY rfl 82 [7] [7, 2] [7, 2] ((readG p).map fun g => [dgT g]) [(2, .ptr 0 0), (3, .t (.int .i64 0)), (4, .t (.int .i64 0)), (5, .ptr 3 0), (6, .gptr 5 0 0), (7, .ptr 6 0), (27, .fnc 82 [7])]
   [.box [.t (.int .i64 0), .t (.int .i64 0), .t (.int .i64 0)], .box [.junk, .junk, .junk], .mp 84 (mapD fun _ => none), .box [.t s, .t (lostT [a0, a1, a2, a3]), .mapr 2], .mpk 106 [] [], .grow 0 [.mapr 4] 106 1, .box [.t (.int .i64 0)], .box [.t s, .t (lostT [a0, a1, a2, a3]), .mapr 2]]
   (fun i => if i = 0 then [.box [.t (.int .i64 0), .t (.int .i64 0), .t (.int .i64 0)], .box [.junk, .junk, .junk], .res, .box [.t s, .t (lostT [a0, a1, a2, a3]), .junk], .mpk 106 [] [], .grow 0 [.mapr 4] 106 1, .box [.t (.int .i64 0)], .res] else
    [.box [.t (.int .i64 0), .t (.int .i64 0), .t (.int .i64 0)], .box [.junk, .junk, .junk], .res, .box [.t s, .t (lostT [a0, a1, a2, a3]), .junk], .mpk 106 [plT a0, plT a1, plT a2, plT a3] [.ptr 8 0, .ptr 9 0, .ptr 10 0, .ptr 11 0], .grow 0 [.mapr 4] 106 1, .box [.t (.int .i64 i)], .res, .box (cntC ((readG p).take i) 0), .box (cntC ((readG p).take i) 1), .box (cntC ((readG p).take i) 2), .box (cntC ((readG p).take i) 3)]) 12 (readG p).length false .normal ?_ (by rfl) (by rfl) (by rfl) ?_ ?_ ?_ ?_ ?_ ?_ ?_ ?_ ?_ ?_
 ·simp +decide -implicitDefEqProofs (maxSteps := 4000000) only [go_sem]
 ·rfl
 ·rfl
 ·exact ⟨_, Tryd.func82, rfl, rfl⟩
 ·intro l
  obtain ⟨D', h⟩ := wReadY_c hs hv ⟨l, (readG p).map fun g => [dgT g], (readG p).length, false⟩ rfl ⟨fun i g hg => by
   rw [Nat.zero_add]
   show ((readG p).map fun g => [dgT g])[i]? = _
   rw [List.getElem?_map, hg]; rfl, by show 0 + (readG p).length ≤ (readG p).length; omega⟩
  rw [hL] at h
  exact ⟨_, _, h, rfl⟩
 ·intro x hx
  obtain ⟨g, _, rfl⟩ := List.mem_map.1 hx
  rfl
 ·intro _
  exact ⟨(List.length_map _).symm, rfl⟩
 ·intro h; cases h
 ·intro i
  by_cases h : i = 0
  ·simp only [h, if_true]; show 8 ≤ 12; decide
  ·simp only [h, if_false]; exact Nat.le_refl _
 ·intro i x hi hx
  rw [List.getElem?_map, Option.map_eq_some_iff] at hx
  obtain ⟨g, hg, rfl⟩ := hx
  have hdg := readG_dig (List.mem_of_getElem? hg)
  rw [hL] at hdg
  have hts := take_snoc hg
  have hi1 := Go.Pm.wS (k := i) (by omega)
  obtain ⟨e0, e1, e2, e3, rfl, he0, he1, he2, he3⟩ := dig4 hdg
  have he0' : (e0 : Int) < 10 := by omega
  have ge0 : e0 ≤ 9 := by omega
  have he1' : (e1 : Int) < 10 := by omega
  have ge1 : e1 ≤ 9 := by omega
  have he2' : (e2 : Int) < 10 := by omega
  have ge2 : e2 ≤ 9 := by omega
  have he3' : (e3 : Int) < 10 := by omega
  have ge3 : e3 ≤ 9 := by omega
  have hg1 : dgT [(e0 : Int), (e1 : Int), (e2 : Int), (e3 : Int)] = .sl [.int .i64 e0, .int .i64 e1, .int .i64 e2, .int .i64 e3] 4 true := rfl
  by_cases h0 : i = 0
  ·subst h0
   rw [List.take_zero, List.nil_append] at hts
   have z0 := zer_at he0
   have y0 := zer_set [(e0 : Int), (e1 : Int), (e2 : Int), (e3 : Int)] 0 he0 rfl
   have z1 := zer_at he1
   have y1 := zer_set [(e0 : Int), (e1 : Int), (e2 : Int), (e3 : Int)] 1 he1 rfl
   have z2 := zer_at he2
   have y2 := zer_set [(e0 : Int), (e1 : Int), (e2 : Int), (e3 : Int)] 2 he2 rfl
   have z3 := zer_at he3
   have y3 := zer_set [(e0 : Int), (e1 : Int), (e2 : Int), (e3 : Int)] 3 he3 rfl
   simp +decide -implicitDefEqProofs (maxSteps := 4000000) only [go_sem, hg1]
   refine pwpC_loopU (A := { k : Nat // k ≤ 4 }) [5, 6, 31, 32] (fun k => [(33, .t (.int .i64 k.1))]) (fun k => match k.1 with | 0 => [(4, .mpk 106 [] [])] | 1 => [(4, .mpk 106 [plT a0] [.ptr 8 0]), (8, .box (cntC [[(e0 : Int), (e1 : Int), (e2 : Int), (e3 : Int)]] 0))] | 2 => [(4, .mpk 106 [plT a0, plT a1] [.ptr 8 0, .ptr 9 0]), (8, .box (cntC [[(e0 : Int), (e1 : Int), (e2 : Int), (e3 : Int)]] 0)), (9, .box (cntC [[(e0 : Int), (e1 : Int), (e2 : Int), (e3 : Int)]] 1))] | 3 => [(4, .mpk 106 [plT a0, plT a1, plT a2] [.ptr 8 0, .ptr 9 0, .ptr 10 0]), (8, .box (cntC [[(e0 : Int), (e1 : Int), (e2 : Int), (e3 : Int)]] 0)), (9, .box (cntC [[(e0 : Int), (e1 : Int), (e2 : Int), (e3 : Int)]] 1)), (10, .box (cntC [[(e0 : Int), (e1 : Int), (e2 : Int), (e3 : Int)]] 2))] | _ => [(4, .mpk 106 [plT a0, plT a1, plT a2, plT a3] [.ptr 8 0, .ptr 9 0, .ptr 10 0, .ptr 11 0]), (8, .box (cntC [[(e0 : Int), (e1 : Int), (e2 : Int), (e3 : Int)]] 0)), (9, .box (cntC [[(e0 : Int), (e1 : Int), (e2 : Int), (e3 : Int)]] 1)), (10, .box (cntC [[(e0 : Int), (e1 : Int), (e2 : Int), (e3 : Int)]] 2)), (11, .box (cntC [[(e0 : Int), (e1 : Int), (e2 : Int), (e3 : Int)]] 3))]) (fun k => 4 - k.1) ⟨0, by omega⟩ (by decide) (fun _ => by rfl) ?_ fun Q1 hQ1 ⟨k, hk⟩ I1 hI1 => ?_
   ·simp +decide -implicitDefEqProofs (maxSteps := 4000000) only [go_sem, w11]
   ·rcases (by omega : k = 0 ∨ k = 1 ∨ k = 2 ∨ k = 3 ∨ k = 4) with rfl | rfl | rfl | rfl | rfl
    ·simp +decide -implicitDefEqProofs (maxSteps := 4000000) only [go_sem, hT, plC, plT, he0', Nat.mul_one, key_pp, und_pp, w11, z0, y0, ge0, hcw, hau]
     refine hI1 _ ⟨1, by omega⟩ (by simp only; omega) ?_
     simp +decide -implicitDefEqProofs (maxSteps := 4000000) only [go_sem, hT, plC, plT, hcw, hau, w11]
    ·simp +decide -implicitDefEqProofs (maxSteps := 4000000) only [go_sem, hT, plC, plT, he1', Nat.mul_one, key_pp, und_pp, w11, z1, y1, ge1, hcw, hau, nf01]
     refine hI1 _ ⟨2, by omega⟩ (by simp only; omega) ?_
     simp +decide -implicitDefEqProofs (maxSteps := 4000000) only [go_sem, hT, plC, plT, hcw, hau, w11]
    ·simp +decide -implicitDefEqProofs (maxSteps := 4000000) only [go_sem, hT, plC, plT, he2', Nat.mul_one, key_pp, und_pp, w11, z2, y2, ge2, hcw, hau, nf02, nf12]
     refine hI1 _ ⟨3, by omega⟩ (by simp only; omega) ?_
     simp +decide -implicitDefEqProofs (maxSteps := 4000000) only [go_sem, hT, plC, plT, hcw, hau, w11]
    ·simp +decide -implicitDefEqProofs (maxSteps := 4000000) only [go_sem, hT, plC, plT, he3', Nat.mul_one, key_pp, und_pp, w11, z3, y3, ge3, hcw, hau, nf03, nf13, nf23]
     refine hI1 _ ⟨4, by omega⟩ (by simp only; omega) ?_
     simp +decide -implicitDefEqProofs (maxSteps := 4000000) only [go_sem, hT, plC, plT, hcw, hau, w11]
    ·simp +decide -implicitDefEqProofs (maxSteps := 4000000) only [go_sem]
     refine hQ1 _ _ ?_
     simp +decide -implicitDefEqProofs (maxSteps := 4000000) only [go_sem, hts, hcw, hau]
  ·obtain ⟨ys, hys⟩ : ∃ ys, (readG p).take i = ys := ⟨_, rfl⟩
   rw [hys] at hts
   have hyl : ys.length ≤ 100000 := by rw [← hys, List.length_take]; omega
   have z0 := cntC_at ys 0 he0
   have y0 := cnt_set ys [(e0 : Int), (e1 : Int), (e2 : Int), (e3 : Int)] 0 he0 rfl
   have x0 := cnt_wrap 0 (e0 : Int) hyl
   have z1 := cntC_at ys 1 he1
   have y1 := cnt_set ys [(e0 : Int), (e1 : Int), (e2 : Int), (e3 : Int)] 1 he1 rfl
   have x1 := cnt_wrap 1 (e1 : Int) hyl
   have z2 := cntC_at ys 2 he2
   have y2 := cnt_set ys [(e0 : Int), (e1 : Int), (e2 : Int), (e3 : Int)] 2 he2 rfl
   have x2 := cnt_wrap 2 (e2 : Int) hyl
   have z3 := cntC_at ys 3 he3
   have y3 := cnt_set ys [(e0 : Int), (e1 : Int), (e2 : Int), (e3 : Int)] 3 he3 rfl
   have x3 := cnt_wrap 3 (e3 : Int) hyl
   have ht9 := cntC_len ys
   simp +decide -implicitDefEqProofs (maxSteps := 4000000) only [go_sem, h0, hg1, hi1, hys]
   refine pwpC_loopU (A := { k : Nat // k ≤ 4 }) [5, 6, 31, 32] (fun k => [(33, .t (.int .i64 k.1))]) (fun k => match k.1 with | 0 => [] | 1 => [(8, .box (cntC (ys ++ [[(e0 : Int), (e1 : Int), (e2 : Int), (e3 : Int)]]) 0))] | 2 => [(8, .box (cntC (ys ++ [[(e0 : Int), (e1 : Int), (e2 : Int), (e3 : Int)]]) 0)), (9, .box (cntC (ys ++ [[(e0 : Int), (e1 : Int), (e2 : Int), (e3 : Int)]]) 1))] | 3 => [(8, .box (cntC (ys ++ [[(e0 : Int), (e1 : Int), (e2 : Int), (e3 : Int)]]) 0)), (9, .box (cntC (ys ++ [[(e0 : Int), (e1 : Int), (e2 : Int), (e3 : Int)]]) 1)), (10, .box (cntC (ys ++ [[(e0 : Int), (e1 : Int), (e2 : Int), (e3 : Int)]]) 2))] | _ => [(8, .box (cntC (ys ++ [[(e0 : Int), (e1 : Int), (e2 : Int), (e3 : Int)]]) 0)), (9, .box (cntC (ys ++ [[(e0 : Int), (e1 : Int), (e2 : Int), (e3 : Int)]]) 1)), (10, .box (cntC (ys ++ [[(e0 : Int), (e1 : Int), (e2 : Int), (e3 : Int)]]) 2)), (11, .box (cntC (ys ++ [[(e0 : Int), (e1 : Int), (e2 : Int), (e3 : Int)]]) 3))]) (fun k => 4 - k.1) ⟨0, by omega⟩ (by decide) (fun _ => by rfl) ?_ fun Q1 hQ1 ⟨k, hk⟩ I1 hI1 => ?_
   ·simp +decide -implicitDefEqProofs (maxSteps := 4000000) only [go_sem, hcw, hau]
   ·rcases (by omega : k = 0 ∨ k = 1 ∨ k = 2 ∨ k = 3 ∨ k = 4) with rfl | rfl | rfl | rfl | rfl
    ·simp +decide -implicitDefEqProofs (maxSteps := 4000000) only [go_sem, hT, plC, plT, he0', Nat.mul_one, key_pp, und_pp, z0, x0, y0, ge0, ht9, hcw, hau]
     refine hI1 _ ⟨1, by omega⟩ (by simp only; omega) ?_
     simp +decide -implicitDefEqProofs (maxSteps := 4000000) only [go_sem, hT, plC, plT, hcw, hau]
    ·simp +decide -implicitDefEqProofs (maxSteps := 4000000) only [go_sem, hT, plC, plT, he1', Nat.mul_one, key_pp, und_pp, z1, x1, y1, ge1, ht9, hcw, hau, nf01]
     refine hI1 _ ⟨2, by omega⟩ (by simp only; omega) ?_
     simp +decide -implicitDefEqProofs (maxSteps := 4000000) only [go_sem, hT, plC, plT, hcw, hau]
    ·simp +decide -implicitDefEqProofs (maxSteps := 4000000) only [go_sem, hT, plC, plT, he2', Nat.mul_one, key_pp, und_pp, z2, x2, y2, ge2, ht9, hcw, hau, nf02, nf12]
     refine hI1 _ ⟨3, by omega⟩ (by simp only; omega) ?_
     simp +decide -implicitDefEqProofs (maxSteps := 4000000) only [go_sem, hT, plC, plT, hcw, hau]
    ·simp +decide -implicitDefEqProofs (maxSteps := 4000000) only [go_sem, hT, plC, plT, he3', Nat.mul_one, key_pp, und_pp, z3, x3, y3, ge3, ht9, hcw, hau, nf03, nf13, nf23]
     refine hI1 _ ⟨4, by omega⟩ (by simp only; omega) ?_
     simp +decide -implicitDefEqProofs (maxSteps := 4000000) only [go_sem, hT, plC, plT, hcw, hau]
    ·simp +decide -implicitDefEqProofs (maxSteps := 4000000) only [go_sem]
     refine hQ1 _ _ ?_
     simp +decide -implicitDefEqProofs (maxSteps := 4000000) only [go_sem, hts, hi1, hcw, hau]
 ·by_cases h0 : (readG p).length = 0
  ·rw [if_pos h0] at hR
   subst hR
   rw [h0]
   simp +decide -implicitDefEqProofs (maxSteps := 4000000) only [go_sem]
  ·rw [if_neg h0] at hR
   have hz : (((readG p).length : Int) == 0) = false := by simp; exact List.ne_nil_of_length_pos (by omega)
   by_cases h1 : (readG p).length = 1
   ·rw [if_pos h1] at hR
    subst hR
    rw [h1]
    simp +decide -implicitDefEqProofs (maxSteps := 4000000) only [go_sem]
   ·rw [if_neg h1] at hR
    have hz1 : (((readG p).length : Int) == 1) = false := by simp; omega
    rw [List.take_length]
    obtain ⟨ys, hys⟩ : ∃ ys, readG p = ys := ⟨_, rfl⟩
    rw [hys] at hR h0 hz hz1 hsz ⊢
    have hmo := fun k => mostTo_le ys k 10
    simp +decide -implicitDefEqProofs (maxSteps := 4000000) only [go_sem, h0, hz, hz1, hT, plC]
    refine pwpC_loopU (A := { k : Nat // k ≤ 4 }) [2, 6, 77, 78] (fun k => [(79, .t (.int .i64 k.1)), (3, .t (.int .i64 (askTo ys [a0, a1, a2, a3] k.1).2))]) (fun k => [(0, .box ((plC (askTo ys [a0, a1, a2, a3] k.1).1).map .t))]) (fun k => 4 - k.1) ⟨0, by omega⟩ (by decide) (fun _ => by rfl) ?_ fun Q1 hQ1 ⟨k, hk⟩ I1 hI1 => ?_
    ·simp +decide -implicitDefEqProofs (maxSteps := 4000000) only [go_sem, askTo, plC, hcw, hau]
    ·obtain ⟨⟨at0, left⟩, hat⟩ : ∃ q, askTo ys [a0, a1, a2, a3] k = q := ⟨_, rfl⟩
     have has : askTo ys [a0, a1, a2, a3] (k + 1) = if left = 0 ∨ mostTo ys k 10 < left then ([a0, a1, a2, a3].getD k (0, 0, 0), mostTo ys k 10) else (at0, left) := by
      show (if _ then _ else _) = _
      rw [hat]
     rcases (by omega : k = 0 ∨ k = 1 ∨ k = 2 ∨ k = 3 ∨ k = 4) with rfl | rfl | rfl | rfl | rfl
     ·simp only [hat]
      simp +decide -implicitDefEqProofs (maxSteps := 4000000) only [go_sem, plC, plT, key_pp]
      refine pwpC_loopU (A := { d : Nat // d ≤ 10 }) [2, 3, 6, 12, 77, 78, 79, 85] (fun d => [(86, .t (.int .i64 d.1)), (13, .t (.int .i64 (mostTo ys 0 d.1)))]) (fun _ => []) (fun d => 10 - d.1) ⟨0, by omega⟩ (by decide) (fun _ => by rfl) ?_ fun Q2 hQ2 ⟨d, hd⟩ I2 hI2 => ?_
      ·simp +decide -implicitDefEqProofs (maxSteps := 4000000) only [go_sem, mostTo, plT, plC, hcw, hau]
      ·by_cases hlt : (d : Int) < 10
       ·have hd1 := Go.Pm.wS (k := d) (by omega)
        have z := cntC_at ys 0 (show d < 10 by omega)
        have hmx : max (mostTo ys 0 d : Int) (cntD ys 0 (d : Int)) = ((mostTo ys 0 (d + 1) : Nat) : Int) := by
         show _ = ((max (mostTo ys 0 d) (cntD ys 0 (d : Int)) : Nat) : Int)
         omega
        simp +decide -implicitDefEqProofs (maxSteps := 4000000) only [go_sem, hlt, z, hmx]
        refine hI2 _ ⟨d + 1, by omega⟩ (by simp only; omega) ?_
        simp +decide -implicitDefEqProofs (maxSteps := 4000000) only [go_sem, hd1, plT, plC, hcw, hau]
       ·have hde : d = 10 := by omega
        subst hde
        simp +decide -implicitDefEqProofs (maxSteps := 4000000) only [go_sem]
        refine hQ2 _ _ ?_
        have hm0 := hmo 0
        by_cases hl0 : left = 0
        ·rw [if_pos (.inl hl0)] at has
         subst hl0
         simp +decide -implicitDefEqProofs (maxSteps := 4000000) only [go_sem, plC]
         refine hI1 _ ⟨1, by omega⟩ (by simp only; omega) ?_
         simp +decide -implicitDefEqProofs (maxSteps := 4000000) only [go_sem, has, plC, plT, hcw, hau]
        ·have hl0' : ((left : Int) == 0) = false := by simp; exact hl0
         by_cases hlm : mostTo ys 0 10 < left
         ·rw [if_pos (.inr hlm)] at has
          have hlm' : ((mostTo ys 0 10 : Nat) : Int) < (left : Int) := by omega
          simp +decide -implicitDefEqProofs (maxSteps := 4000000) only [go_sem, plC, hl0', hlm']
          refine hI1 _ ⟨1, by omega⟩ (by simp only; omega) ?_
          simp +decide -implicitDefEqProofs (maxSteps := 4000000) only [go_sem, has, plC, plT, hcw, hau]
         ·rw [if_neg (fun h => h.elim hl0 hlm)] at has
          have hlm' : ¬ ((mostTo ys 0 10 : Nat) : Int) < (left : Int) := by omega
          simp +decide -implicitDefEqProofs (maxSteps := 4000000) only [go_sem, plC, hl0', hlm']
          refine hI1 _ ⟨1, by omega⟩ (by simp only; omega) ?_
          simp +decide -implicitDefEqProofs (maxSteps := 4000000) only [go_sem, has, plC, plT, hcw, hau]
     ·simp only [hat]
      simp +decide -implicitDefEqProofs (maxSteps := 4000000) only [go_sem, plC, plT, key_pp, nf01]
      refine pwpC_loopU (A := { d : Nat // d ≤ 10 }) [2, 3, 6, 12, 77, 78, 79, 85] (fun d => [(86, .t (.int .i64 d.1)), (13, .t (.int .i64 (mostTo ys 1 d.1)))]) (fun _ => []) (fun d => 10 - d.1) ⟨0, by omega⟩ (by decide) (fun _ => by rfl) ?_ fun Q2 hQ2 ⟨d, hd⟩ I2 hI2 => ?_
      ·simp +decide -implicitDefEqProofs (maxSteps := 4000000) only [go_sem, mostTo, plT, plC, hcw, hau]
      ·by_cases hlt : (d : Int) < 10
       ·have hd1 := Go.Pm.wS (k := d) (by omega)
        have z := cntC_at ys 1 (show d < 10 by omega)
        have hmx : max (mostTo ys 1 d : Int) (cntD ys 1 (d : Int)) = ((mostTo ys 1 (d + 1) : Nat) : Int) := by
         show _ = ((max (mostTo ys 1 d) (cntD ys 1 (d : Int)) : Nat) : Int)
         omega
        simp +decide -implicitDefEqProofs (maxSteps := 4000000) only [go_sem, hlt, z, hmx]
        refine hI2 _ ⟨d + 1, by omega⟩ (by simp only; omega) ?_
        simp +decide -implicitDefEqProofs (maxSteps := 4000000) only [go_sem, hd1, plT, plC, hcw, hau]
       ·have hde : d = 10 := by omega
        subst hde
        simp +decide -implicitDefEqProofs (maxSteps := 4000000) only [go_sem]
        refine hQ2 _ _ ?_
        have hm0 := hmo 1
        by_cases hl0 : left = 0
        ·rw [if_pos (.inl hl0)] at has
         subst hl0
         simp +decide -implicitDefEqProofs (maxSteps := 4000000) only [go_sem, plC]
         refine hI1 _ ⟨2, by omega⟩ (by simp only; omega) ?_
         simp +decide -implicitDefEqProofs (maxSteps := 4000000) only [go_sem, has, plC, plT, hcw, hau]
        ·have hl0' : ((left : Int) == 0) = false := by simp; exact hl0
         by_cases hlm : mostTo ys 1 10 < left
         ·rw [if_pos (.inr hlm)] at has
          have hlm' : ((mostTo ys 1 10 : Nat) : Int) < (left : Int) := by omega
          simp +decide -implicitDefEqProofs (maxSteps := 4000000) only [go_sem, plC, hl0', hlm']
          refine hI1 _ ⟨2, by omega⟩ (by simp only; omega) ?_
          simp +decide -implicitDefEqProofs (maxSteps := 4000000) only [go_sem, has, plC, plT, hcw, hau]
         ·rw [if_neg (fun h => h.elim hl0 hlm)] at has
          have hlm' : ¬ ((mostTo ys 1 10 : Nat) : Int) < (left : Int) := by omega
          simp +decide -implicitDefEqProofs (maxSteps := 4000000) only [go_sem, plC, hl0', hlm']
          refine hI1 _ ⟨2, by omega⟩ (by simp only; omega) ?_
          simp +decide -implicitDefEqProofs (maxSteps := 4000000) only [go_sem, has, plC, plT, hcw, hau]
     ·simp only [hat]
      simp +decide -implicitDefEqProofs (maxSteps := 4000000) only [go_sem, plC, plT, key_pp, nf02, nf12]
      refine pwpC_loopU (A := { d : Nat // d ≤ 10 }) [2, 3, 6, 12, 77, 78, 79, 85] (fun d => [(86, .t (.int .i64 d.1)), (13, .t (.int .i64 (mostTo ys 2 d.1)))]) (fun _ => []) (fun d => 10 - d.1) ⟨0, by omega⟩ (by decide) (fun _ => by rfl) ?_ fun Q2 hQ2 ⟨d, hd⟩ I2 hI2 => ?_
      ·simp +decide -implicitDefEqProofs (maxSteps := 4000000) only [go_sem, mostTo, plT, plC, hcw, hau]
      ·by_cases hlt : (d : Int) < 10
       ·have hd1 := Go.Pm.wS (k := d) (by omega)
        have z := cntC_at ys 2 (show d < 10 by omega)
        have hmx : max (mostTo ys 2 d : Int) (cntD ys 2 (d : Int)) = ((mostTo ys 2 (d + 1) : Nat) : Int) := by
         show _ = ((max (mostTo ys 2 d) (cntD ys 2 (d : Int)) : Nat) : Int)
         omega
        simp +decide -implicitDefEqProofs (maxSteps := 4000000) only [go_sem, hlt, z, hmx]
        refine hI2 _ ⟨d + 1, by omega⟩ (by simp only; omega) ?_
        simp +decide -implicitDefEqProofs (maxSteps := 4000000) only [go_sem, hd1, plT, plC, hcw, hau]
       ·have hde : d = 10 := by omega
        subst hde
        simp +decide -implicitDefEqProofs (maxSteps := 4000000) only [go_sem]
        refine hQ2 _ _ ?_
        have hm0 := hmo 2
        by_cases hl0 : left = 0
        ·rw [if_pos (.inl hl0)] at has
         subst hl0
         simp +decide -implicitDefEqProofs (maxSteps := 4000000) only [go_sem, plC]
         refine hI1 _ ⟨3, by omega⟩ (by simp only; omega) ?_
         simp +decide -implicitDefEqProofs (maxSteps := 4000000) only [go_sem, has, plC, plT, hcw, hau]
        ·have hl0' : ((left : Int) == 0) = false := by simp; exact hl0
         by_cases hlm : mostTo ys 2 10 < left
         ·rw [if_pos (.inr hlm)] at has
          have hlm' : ((mostTo ys 2 10 : Nat) : Int) < (left : Int) := by omega
          simp +decide -implicitDefEqProofs (maxSteps := 4000000) only [go_sem, plC, hl0', hlm']
          refine hI1 _ ⟨3, by omega⟩ (by simp only; omega) ?_
          simp +decide -implicitDefEqProofs (maxSteps := 4000000) only [go_sem, has, plC, plT, hcw, hau]
         ·rw [if_neg (fun h => h.elim hl0 hlm)] at has
          have hlm' : ¬ ((mostTo ys 2 10 : Nat) : Int) < (left : Int) := by omega
          simp +decide -implicitDefEqProofs (maxSteps := 4000000) only [go_sem, plC, hl0', hlm']
          refine hI1 _ ⟨3, by omega⟩ (by simp only; omega) ?_
          simp +decide -implicitDefEqProofs (maxSteps := 4000000) only [go_sem, has, plC, plT, hcw, hau]
     ·simp only [hat]
      simp +decide -implicitDefEqProofs (maxSteps := 4000000) only [go_sem, plC, plT, key_pp, nf03, nf13, nf23]
      refine pwpC_loopU (A := { d : Nat // d ≤ 10 }) [2, 3, 6, 12, 77, 78, 79, 85] (fun d => [(86, .t (.int .i64 d.1)), (13, .t (.int .i64 (mostTo ys 3 d.1)))]) (fun _ => []) (fun d => 10 - d.1) ⟨0, by omega⟩ (by decide) (fun _ => by rfl) ?_ fun Q2 hQ2 ⟨d, hd⟩ I2 hI2 => ?_
      ·simp +decide -implicitDefEqProofs (maxSteps := 4000000) only [go_sem, mostTo, plT, plC, hcw, hau]
      ·by_cases hlt : (d : Int) < 10
       ·have hd1 := Go.Pm.wS (k := d) (by omega)
        have z := cntC_at ys 3 (show d < 10 by omega)
        have hmx : max (mostTo ys 3 d : Int) (cntD ys 3 (d : Int)) = ((mostTo ys 3 (d + 1) : Nat) : Int) := by
         show _ = ((max (mostTo ys 3 d) (cntD ys 3 (d : Int)) : Nat) : Int)
         omega
        simp +decide -implicitDefEqProofs (maxSteps := 4000000) only [go_sem, hlt, z, hmx]
        refine hI2 _ ⟨d + 1, by omega⟩ (by simp only; omega) ?_
        simp +decide -implicitDefEqProofs (maxSteps := 4000000) only [go_sem, hd1, plT, plC, hcw, hau]
       ·have hde : d = 10 := by omega
        subst hde
        simp +decide -implicitDefEqProofs (maxSteps := 4000000) only [go_sem]
        refine hQ2 _ _ ?_
        have hm0 := hmo 3
        by_cases hl0 : left = 0
        ·rw [if_pos (.inl hl0)] at has
         subst hl0
         simp +decide -implicitDefEqProofs (maxSteps := 4000000) only [go_sem, plC]
         refine hI1 _ ⟨4, by omega⟩ (by simp only; omega) ?_
         simp +decide -implicitDefEqProofs (maxSteps := 4000000) only [go_sem, has, plC, plT, hcw, hau]
        ·have hl0' : ((left : Int) == 0) = false := by simp; exact hl0
         by_cases hlm : mostTo ys 3 10 < left
         ·rw [if_pos (.inr hlm)] at has
          have hlm' : ((mostTo ys 3 10 : Nat) : Int) < (left : Int) := by omega
          simp +decide -implicitDefEqProofs (maxSteps := 4000000) only [go_sem, plC, hl0', hlm']
          refine hI1 _ ⟨4, by omega⟩ (by simp only; omega) ?_
          simp +decide -implicitDefEqProofs (maxSteps := 4000000) only [go_sem, has, plC, plT, hcw, hau]
         ·rw [if_neg (fun h => h.elim hl0 hlm)] at has
          have hlm' : ¬ ((mostTo ys 3 10 : Nat) : Int) < (left : Int) := by omega
          simp +decide -implicitDefEqProofs (maxSteps := 4000000) only [go_sem, plC, hl0', hlm']
          refine hI1 _ ⟨4, by omega⟩ (by simp only; omega) ?_
          simp +decide -implicitDefEqProofs (maxSteps := 4000000) only [go_sem, has, plC, plT, hcw, hau]
     ·simp only [hat]
      simp +decide -implicitDefEqProofs (maxSteps := 4000000) only [go_sem]
      refine hQ1 _ _ ?_
      have hR2 : R = .tup [plT at0, .int .i64 left, .int .i64 0] := by
       rw [← hR]
       show TV.tup [plT (askTo ys [a0, a1, a2, a3] 4).1, .int .i64 (askTo ys [a0, a1, a2, a3] 4).2, .int .i64 0] = _
       rw [hat]
      simp +decide -implicitDefEqProofs (maxSteps := 4000000) only [go_sem, hR2, plT, plC]
theorem wAsk5_c {s : TV} {p : List (List ByteArray)} (hs : pgR s p) (hv : validB p = true) {a0 a1 a2 a3 a4 : Pl} (hL : placesP p = [a0, a1, a2, a3, a4]) (ne01 : a0 ≠ a1) (ne02 : a0 ≠ a2) (ne03 : a0 ≠ a3) (ne04 : a0 ≠ a4) (ne12 : a1 ≠ a2) (ne13 : a1 ≠ a3) (ne14 : a1 ≠ a4) (ne23 : a2 ≠ a3) (ne24 : a2 ≠ a4) (ne34 : a3 ≠ a4) : PCalls Tryd.prog 19 [s] (askT p) := by
 have hll : (placesP p).length ≤ 5 := by rw [places_len]; exact (valid_len hv).2
 have hsp := spW2_ok hs hv
 have hsz : (readG p).length ≤ 100000 := readG_size hll
 obtain ⟨R, hR⟩ : ∃ R, askT p = R := ⟨_, rfl⟩
 rw [hR]
 unfold askT at hR
 rw [hL] at hR
 have nf01 := pl_ne ne01
 have nf10 := pl_ne (Ne.symm ne01)
 have nf02 := pl_ne ne02
 have nf20 := pl_ne (Ne.symm ne02)
 have nf03 := pl_ne ne03
 have nf30 := pl_ne (Ne.symm ne03)
 have nf04 := pl_ne ne04
 have nf40 := pl_ne (Ne.symm ne04)
 have nf12 := pl_ne ne12
 have nf21 := pl_ne (Ne.symm ne12)
 have nf13 := pl_ne ne13
 have nf31 := pl_ne (Ne.symm ne13)
 have nf14 := pl_ne ne14
 have nf41 := pl_ne (Ne.symm ne14)
 have nf23 := pl_ne ne23
 have nf32 := pl_ne (Ne.symm ne23)
 have nf24 := pl_ne ne24
 have nf42 := pl_ne (Ne.symm ne24)
 have nf34 := pl_ne ne34
 have nf43 := pl_ne (Ne.symm ne34)
 have hT : lostT [a0, a1, a2, a3, a4] = .sl (plC a0 ++ (plC a1 ++ (plC a2 ++ (plC a3 ++ (plC a4))))) 5 false := rfl
 have hcw : ∀ (l : List PO) (ys : List (List Int)) (k : Nat), cellsW l (cntC ys k) (cntC ys k) := fun l ys k => cellsW_ts l _
 have hau : ∀ (m : Nat) (ys : List (List Int)) (k : Nat), (cntC ys k).all (PV.under m) = true := fun m ys k => all_ts m _
 refine pcalls_by Tryd.mixes hsp (fn := Tryd.f19) Tryd.func19 rfl (by kernel_rfl) (by show 1 ≤ _; decide) ?_
 simp +decide -implicitDefEqProofs (maxSteps := 4000000) only [go_sem, Tryd.f19, hL]
 refine pwpC_rangeY rfl 82 [7] [7, 2] [7, 2] ((readG p).map fun g => [dgT g]) [(2, .ptr 0 0), (3, .t (.int .i64 0)), (4, .t (.int .i64 0)), (5, .ptr 3 0), (6, .gptr 5 0 0), (7, .ptr 6 0), (27, .fnc 82 [7])]
   [.box [.t (.int .i64 0), .t (.int .i64 0), .t (.int .i64 0)], .box [.junk, .junk, .junk], .mp 84 (mapD fun _ => none), .box [.t s, .t (lostT [a0, a1, a2, a3, a4]), .mapr 2], .mpk 106 [] [], .grow 0 [.mapr 4] 106 1, .box [.t (.int .i64 0)], .box [.t s, .t (lostT [a0, a1, a2, a3, a4]), .mapr 2]]
   (fun i => if i = 0 then [.box [.t (.int .i64 0), .t (.int .i64 0), .t (.int .i64 0)], .box [.junk, .junk, .junk], .res, .box [.t s, .t (lostT [a0, a1, a2, a3, a4]), .junk], .mpk 106 [] [], .grow 0 [.mapr 4] 106 1, .box [.t (.int .i64 0)], .res] else
    [.box [.t (.int .i64 0), .t (.int .i64 0), .t (.int .i64 0)], .box [.junk, .junk, .junk], .res, .box [.t s, .t (lostT [a0, a1, a2, a3, a4]), .junk], .mpk 106 [plT a0, plT a1, plT a2, plT a3, plT a4] [.ptr 8 0, .ptr 9 0, .ptr 10 0, .ptr 11 0, .ptr 12 0], .grow 0 [.mapr 4] 106 1, .box [.t (.int .i64 i)], .res, .box (cntC ((readG p).take i) 0), .box (cntC ((readG p).take i) 1), .box (cntC ((readG p).take i) 2), .box (cntC ((readG p).take i) 3), .box (cntC ((readG p).take i) 4)]) 13 (readG p).length false .normal ?_ (by rfl) (by rfl) (by rfl) ?_ ?_ ?_ ?_ ?_ ?_ ?_ ?_ ?_ ?_
 ·simp +decide -implicitDefEqProofs (maxSteps := 4000000) only [go_sem]
 ·rfl
 ·rfl
 ·exact ⟨_, Tryd.func82, rfl, rfl⟩
 ·intro l
  obtain ⟨D', h⟩ := wReadY_c hs hv ⟨l, (readG p).map fun g => [dgT g], (readG p).length, false⟩ rfl ⟨fun i g hg => by
   rw [Nat.zero_add]
   show ((readG p).map fun g => [dgT g])[i]? = _
   rw [List.getElem?_map, hg]; rfl, by show 0 + (readG p).length ≤ (readG p).length; omega⟩
  rw [hL] at h
  exact ⟨_, _, h, rfl⟩
 ·intro x hx
  obtain ⟨g, _, rfl⟩ := List.mem_map.1 hx
  rfl
 ·intro _
  exact ⟨(List.length_map _).symm, rfl⟩
 ·intro h; cases h
 ·intro i
  by_cases h : i = 0
  ·simp only [h, if_true]; show 8 ≤ 13; decide
  ·simp only [h, if_false]; exact Nat.le_refl _
 ·intro i x hi hx
  rw [List.getElem?_map, Option.map_eq_some_iff] at hx
  obtain ⟨g, hg, rfl⟩ := hx
  have hdg := readG_dig (List.mem_of_getElem? hg)
  rw [hL] at hdg
  have hts := take_snoc hg
  have hi1 := Go.Pm.wS (k := i) (by omega)
  obtain ⟨e0, e1, e2, e3, e4, rfl, he0, he1, he2, he3, he4⟩ := dig5 hdg
  have he0' : (e0 : Int) < 10 := by omega
  have ge0 : e0 ≤ 9 := by omega
  have he1' : (e1 : Int) < 10 := by omega
  have ge1 : e1 ≤ 9 := by omega
  have he2' : (e2 : Int) < 10 := by omega
  have ge2 : e2 ≤ 9 := by omega
  have he3' : (e3 : Int) < 10 := by omega
  have ge3 : e3 ≤ 9 := by omega
  have he4' : (e4 : Int) < 10 := by omega
  have ge4 : e4 ≤ 9 := by omega
  have hg1 : dgT [(e0 : Int), (e1 : Int), (e2 : Int), (e3 : Int), (e4 : Int)] = .sl [.int .i64 e0, .int .i64 e1, .int .i64 e2, .int .i64 e3, .int .i64 e4] 5 true := rfl
  by_cases h0 : i = 0
  ·subst h0
   rw [List.take_zero, List.nil_append] at hts
   have z0 := zer_at he0
   have y0 := zer_set [(e0 : Int), (e1 : Int), (e2 : Int), (e3 : Int), (e4 : Int)] 0 he0 rfl
   have z1 := zer_at he1
   have y1 := zer_set [(e0 : Int), (e1 : Int), (e2 : Int), (e3 : Int), (e4 : Int)] 1 he1 rfl
   have z2 := zer_at he2
   have y2 := zer_set [(e0 : Int), (e1 : Int), (e2 : Int), (e3 : Int), (e4 : Int)] 2 he2 rfl
   have z3 := zer_at he3
   have y3 := zer_set [(e0 : Int), (e1 : Int), (e2 : Int), (e3 : Int), (e4 : Int)] 3 he3 rfl
   have z4 := zer_at he4
   have y4 := zer_set [(e0 : Int), (e1 : Int), (e2 : Int), (e3 : Int), (e4 : Int)] 4 he4 rfl
   simp +decide -implicitDefEqProofs (maxSteps := 4000000) only [go_sem, hg1]
   refine pwpC_loopU (A := { k : Nat // k ≤ 5 }) [5, 6, 31, 32] (fun k => [(33, .t (.int .i64 k.1))]) (fun k => match k.1 with | 0 => [(4, .mpk 106 [] [])] | 1 => [(4, .mpk 106 [plT a0] [.ptr 8 0]), (8, .box (cntC [[(e0 : Int), (e1 : Int), (e2 : Int), (e3 : Int), (e4 : Int)]] 0))] | 2 => [(4, .mpk 106 [plT a0, plT a1] [.ptr 8 0, .ptr 9 0]), (8, .box (cntC [[(e0 : Int), (e1 : Int), (e2 : Int), (e3 : Int), (e4 : Int)]] 0)), (9, .box (cntC [[(e0 : Int), (e1 : Int), (e2 : Int), (e3 : Int), (e4 : Int)]] 1))] | 3 => [(4, .mpk 106 [plT a0, plT a1, plT a2] [.ptr 8 0, .ptr 9 0, .ptr 10 0]), (8, .box (cntC [[(e0 : Int), (e1 : Int), (e2 : Int), (e3 : Int), (e4 : Int)]] 0)), (9, .box (cntC [[(e0 : Int), (e1 : Int), (e2 : Int), (e3 : Int), (e4 : Int)]] 1)), (10, .box (cntC [[(e0 : Int), (e1 : Int), (e2 : Int), (e3 : Int), (e4 : Int)]] 2))] | 4 => [(4, .mpk 106 [plT a0, plT a1, plT a2, plT a3] [.ptr 8 0, .ptr 9 0, .ptr 10 0, .ptr 11 0]), (8, .box (cntC [[(e0 : Int), (e1 : Int), (e2 : Int), (e3 : Int), (e4 : Int)]] 0)), (9, .box (cntC [[(e0 : Int), (e1 : Int), (e2 : Int), (e3 : Int), (e4 : Int)]] 1)), (10, .box (cntC [[(e0 : Int), (e1 : Int), (e2 : Int), (e3 : Int), (e4 : Int)]] 2)), (11, .box (cntC [[(e0 : Int), (e1 : Int), (e2 : Int), (e3 : Int), (e4 : Int)]] 3))] | _ => [(4, .mpk 106 [plT a0, plT a1, plT a2, plT a3, plT a4] [.ptr 8 0, .ptr 9 0, .ptr 10 0, .ptr 11 0, .ptr 12 0]), (8, .box (cntC [[(e0 : Int), (e1 : Int), (e2 : Int), (e3 : Int), (e4 : Int)]] 0)), (9, .box (cntC [[(e0 : Int), (e1 : Int), (e2 : Int), (e3 : Int), (e4 : Int)]] 1)), (10, .box (cntC [[(e0 : Int), (e1 : Int), (e2 : Int), (e3 : Int), (e4 : Int)]] 2)), (11, .box (cntC [[(e0 : Int), (e1 : Int), (e2 : Int), (e3 : Int), (e4 : Int)]] 3)), (12, .box (cntC [[(e0 : Int), (e1 : Int), (e2 : Int), (e3 : Int), (e4 : Int)]] 4))]) (fun k => 5 - k.1) ⟨0, by omega⟩ (by decide) (fun _ => by rfl) ?_ fun Q1 hQ1 ⟨k, hk⟩ I1 hI1 => ?_
   ·simp +decide -implicitDefEqProofs (maxSteps := 4000000) only [go_sem, w11]
   ·rcases (by omega : k = 0 ∨ k = 1 ∨ k = 2 ∨ k = 3 ∨ k = 4 ∨ k = 5) with rfl | rfl | rfl | rfl | rfl | rfl
    ·simp +decide -implicitDefEqProofs (maxSteps := 4000000) only [go_sem, hT, plC, plT, he0', Nat.mul_one, key_pp, und_pp, w11, z0, y0, ge0, hcw, hau]
     refine hI1 _ ⟨1, by omega⟩ (by simp only; omega) ?_
     simp +decide -implicitDefEqProofs (maxSteps := 4000000) only [go_sem, hT, plC, plT, hcw, hau, w11]
    ·simp +decide -implicitDefEqProofs (maxSteps := 4000000) only [go_sem, hT, plC, plT, he1', Nat.mul_one, key_pp, und_pp, w11, z1, y1, ge1, hcw, hau, nf01]
     refine hI1 _ ⟨2, by omega⟩ (by simp only; omega) ?_
     simp +decide -implicitDefEqProofs (maxSteps := 4000000) only [go_sem, hT, plC, plT, hcw, hau, w11]
    ·simp +decide -implicitDefEqProofs (maxSteps := 4000000) only [go_sem, hT, plC, plT, he2', Nat.mul_one, key_pp, und_pp, w11, z2, y2, ge2, hcw, hau, nf02, nf12]
     refine hI1 _ ⟨3, by omega⟩ (by simp only; omega) ?_
     simp +decide -implicitDefEqProofs (maxSteps := 4000000) only [go_sem, hT, plC, plT, hcw, hau, w11]
    ·simp +decide -implicitDefEqProofs (maxSteps := 4000000) only [go_sem, hT, plC, plT, he3', Nat.mul_one, key_pp, und_pp, w11, z3, y3, ge3, hcw, hau, nf03, nf13, nf23]
     refine hI1 _ ⟨4, by omega⟩ (by simp only; omega) ?_
     simp +decide -implicitDefEqProofs (maxSteps := 4000000) only [go_sem, hT, plC, plT, hcw, hau, w11]
    ·simp +decide -implicitDefEqProofs (maxSteps := 4000000) only [go_sem, hT, plC, plT, he4', Nat.mul_one, key_pp, und_pp, w11, z4, y4, ge4, hcw, hau, nf04, nf14, nf24, nf34]
     refine hI1 _ ⟨5, by omega⟩ (by simp only; omega) ?_
     simp +decide -implicitDefEqProofs (maxSteps := 4000000) only [go_sem, hT, plC, plT, hcw, hau, w11]
    ·simp +decide -implicitDefEqProofs (maxSteps := 4000000) only [go_sem]
     refine hQ1 _ _ ?_
     simp +decide -implicitDefEqProofs (maxSteps := 4000000) only [go_sem, hts, hcw, hau]
  ·obtain ⟨ys, hys⟩ : ∃ ys, (readG p).take i = ys := ⟨_, rfl⟩
   rw [hys] at hts
   have hyl : ys.length ≤ 100000 := by rw [← hys, List.length_take]; omega
   have z0 := cntC_at ys 0 he0
   have y0 := cnt_set ys [(e0 : Int), (e1 : Int), (e2 : Int), (e3 : Int), (e4 : Int)] 0 he0 rfl
   have x0 := cnt_wrap 0 (e0 : Int) hyl
   have z1 := cntC_at ys 1 he1
   have y1 := cnt_set ys [(e0 : Int), (e1 : Int), (e2 : Int), (e3 : Int), (e4 : Int)] 1 he1 rfl
   have x1 := cnt_wrap 1 (e1 : Int) hyl
   have z2 := cntC_at ys 2 he2
   have y2 := cnt_set ys [(e0 : Int), (e1 : Int), (e2 : Int), (e3 : Int), (e4 : Int)] 2 he2 rfl
   have x2 := cnt_wrap 2 (e2 : Int) hyl
   have z3 := cntC_at ys 3 he3
   have y3 := cnt_set ys [(e0 : Int), (e1 : Int), (e2 : Int), (e3 : Int), (e4 : Int)] 3 he3 rfl
   have x3 := cnt_wrap 3 (e3 : Int) hyl
   have z4 := cntC_at ys 4 he4
   have y4 := cnt_set ys [(e0 : Int), (e1 : Int), (e2 : Int), (e3 : Int), (e4 : Int)] 4 he4 rfl
   have x4 := cnt_wrap 4 (e4 : Int) hyl
   have ht9 := cntC_len ys
   simp +decide -implicitDefEqProofs (maxSteps := 4000000) only [go_sem, h0, hg1, hi1, hys]
   refine pwpC_loopU (A := { k : Nat // k ≤ 5 }) [5, 6, 31, 32] (fun k => [(33, .t (.int .i64 k.1))]) (fun k => match k.1 with | 0 => [] | 1 => [(8, .box (cntC (ys ++ [[(e0 : Int), (e1 : Int), (e2 : Int), (e3 : Int), (e4 : Int)]]) 0))] | 2 => [(8, .box (cntC (ys ++ [[(e0 : Int), (e1 : Int), (e2 : Int), (e3 : Int), (e4 : Int)]]) 0)), (9, .box (cntC (ys ++ [[(e0 : Int), (e1 : Int), (e2 : Int), (e3 : Int), (e4 : Int)]]) 1))] | 3 => [(8, .box (cntC (ys ++ [[(e0 : Int), (e1 : Int), (e2 : Int), (e3 : Int), (e4 : Int)]]) 0)), (9, .box (cntC (ys ++ [[(e0 : Int), (e1 : Int), (e2 : Int), (e3 : Int), (e4 : Int)]]) 1)), (10, .box (cntC (ys ++ [[(e0 : Int), (e1 : Int), (e2 : Int), (e3 : Int), (e4 : Int)]]) 2))] | 4 => [(8, .box (cntC (ys ++ [[(e0 : Int), (e1 : Int), (e2 : Int), (e3 : Int), (e4 : Int)]]) 0)), (9, .box (cntC (ys ++ [[(e0 : Int), (e1 : Int), (e2 : Int), (e3 : Int), (e4 : Int)]]) 1)), (10, .box (cntC (ys ++ [[(e0 : Int), (e1 : Int), (e2 : Int), (e3 : Int), (e4 : Int)]]) 2)), (11, .box (cntC (ys ++ [[(e0 : Int), (e1 : Int), (e2 : Int), (e3 : Int), (e4 : Int)]]) 3))] | _ => [(8, .box (cntC (ys ++ [[(e0 : Int), (e1 : Int), (e2 : Int), (e3 : Int), (e4 : Int)]]) 0)), (9, .box (cntC (ys ++ [[(e0 : Int), (e1 : Int), (e2 : Int), (e3 : Int), (e4 : Int)]]) 1)), (10, .box (cntC (ys ++ [[(e0 : Int), (e1 : Int), (e2 : Int), (e3 : Int), (e4 : Int)]]) 2)), (11, .box (cntC (ys ++ [[(e0 : Int), (e1 : Int), (e2 : Int), (e3 : Int), (e4 : Int)]]) 3)), (12, .box (cntC (ys ++ [[(e0 : Int), (e1 : Int), (e2 : Int), (e3 : Int), (e4 : Int)]]) 4))]) (fun k => 5 - k.1) ⟨0, by omega⟩ (by decide) (fun _ => by rfl) ?_ fun Q1 hQ1 ⟨k, hk⟩ I1 hI1 => ?_
   ·simp +decide -implicitDefEqProofs (maxSteps := 4000000) only [go_sem, hcw, hau]
   ·rcases (by omega : k = 0 ∨ k = 1 ∨ k = 2 ∨ k = 3 ∨ k = 4 ∨ k = 5) with rfl | rfl | rfl | rfl | rfl | rfl
    ·simp +decide -implicitDefEqProofs (maxSteps := 4000000) only [go_sem, hT, plC, plT, he0', Nat.mul_one, key_pp, und_pp, z0, x0, y0, ge0, ht9, hcw, hau]
     refine hI1 _ ⟨1, by omega⟩ (by simp only; omega) ?_
     simp +decide -implicitDefEqProofs (maxSteps := 4000000) only [go_sem, hT, plC, plT, hcw, hau]
    ·simp +decide -implicitDefEqProofs (maxSteps := 4000000) only [go_sem, hT, plC, plT, he1', Nat.mul_one, key_pp, und_pp, z1, x1, y1, ge1, ht9, hcw, hau, nf01]
     refine hI1 _ ⟨2, by omega⟩ (by simp only; omega) ?_
     simp +decide -implicitDefEqProofs (maxSteps := 4000000) only [go_sem, hT, plC, plT, hcw, hau]
    ·simp +decide -implicitDefEqProofs (maxSteps := 4000000) only [go_sem, hT, plC, plT, he2', Nat.mul_one, key_pp, und_pp, z2, x2, y2, ge2, ht9, hcw, hau, nf02, nf12]
     refine hI1 _ ⟨3, by omega⟩ (by simp only; omega) ?_
     simp +decide -implicitDefEqProofs (maxSteps := 4000000) only [go_sem, hT, plC, plT, hcw, hau]
    ·simp +decide -implicitDefEqProofs (maxSteps := 4000000) only [go_sem, hT, plC, plT, he3', Nat.mul_one, key_pp, und_pp, z3, x3, y3, ge3, ht9, hcw, hau, nf03, nf13, nf23]
     refine hI1 _ ⟨4, by omega⟩ (by simp only; omega) ?_
     simp +decide -implicitDefEqProofs (maxSteps := 4000000) only [go_sem, hT, plC, plT, hcw, hau]
    ·simp +decide -implicitDefEqProofs (maxSteps := 4000000) only [go_sem, hT, plC, plT, he4', Nat.mul_one, key_pp, und_pp, z4, x4, y4, ge4, ht9, hcw, hau, nf04, nf14, nf24, nf34]
     refine hI1 _ ⟨5, by omega⟩ (by simp only; omega) ?_
     simp +decide -implicitDefEqProofs (maxSteps := 4000000) only [go_sem, hT, plC, plT, hcw, hau]
    ·simp +decide -implicitDefEqProofs (maxSteps := 4000000) only [go_sem]
     refine hQ1 _ _ ?_
     simp +decide -implicitDefEqProofs (maxSteps := 4000000) only [go_sem, hts, hi1, hcw, hau]
 ·by_cases h0 : (readG p).length = 0
  ·rw [if_pos h0] at hR
   subst hR
   rw [h0]
   simp +decide -implicitDefEqProofs (maxSteps := 4000000) only [go_sem]
  ·rw [if_neg h0] at hR
   have hz : (((readG p).length : Int) == 0) = false := by simp; exact List.ne_nil_of_length_pos (by omega)
   by_cases h1 : (readG p).length = 1
   ·rw [if_pos h1] at hR
    subst hR
    rw [h1]
    simp +decide -implicitDefEqProofs (maxSteps := 4000000) only [go_sem]
   ·rw [if_neg h1] at hR
    have hz1 : (((readG p).length : Int) == 1) = false := by simp; omega
    rw [List.take_length]
    obtain ⟨ys, hys⟩ : ∃ ys, readG p = ys := ⟨_, rfl⟩
    rw [hys] at hR h0 hz hz1 hsz ⊢
    have hmo := fun k => mostTo_le ys k 10
    simp +decide -implicitDefEqProofs (maxSteps := 4000000) only [go_sem, h0, hz, hz1, hT, plC]
    refine pwpC_loopU (A := { k : Nat // k ≤ 5 }) [2, 6, 77, 78] (fun k => [(79, .t (.int .i64 k.1)), (3, .t (.int .i64 (askTo ys [a0, a1, a2, a3, a4] k.1).2))]) (fun k => [(0, .box ((plC (askTo ys [a0, a1, a2, a3, a4] k.1).1).map .t))]) (fun k => 5 - k.1) ⟨0, by omega⟩ (by decide) (fun _ => by rfl) ?_ fun Q1 hQ1 ⟨k, hk⟩ I1 hI1 => ?_
    ·simp +decide -implicitDefEqProofs (maxSteps := 4000000) only [go_sem, askTo, plC, hcw, hau]
    ·obtain ⟨⟨at0, left⟩, hat⟩ : ∃ q, askTo ys [a0, a1, a2, a3, a4] k = q := ⟨_, rfl⟩
     have has : askTo ys [a0, a1, a2, a3, a4] (k + 1) = if left = 0 ∨ mostTo ys k 10 < left then ([a0, a1, a2, a3, a4].getD k (0, 0, 0), mostTo ys k 10) else (at0, left) := by
      show (if _ then _ else _) = _
      rw [hat]
     rcases (by omega : k = 0 ∨ k = 1 ∨ k = 2 ∨ k = 3 ∨ k = 4 ∨ k = 5) with rfl | rfl | rfl | rfl | rfl | rfl
     ·simp only [hat]
      simp +decide -implicitDefEqProofs (maxSteps := 4000000) only [go_sem, plC, plT, key_pp]
      refine pwpC_loopU (A := { d : Nat // d ≤ 10 }) [2, 3, 6, 12, 77, 78, 79, 85] (fun d => [(86, .t (.int .i64 d.1)), (13, .t (.int .i64 (mostTo ys 0 d.1)))]) (fun _ => []) (fun d => 10 - d.1) ⟨0, by omega⟩ (by decide) (fun _ => by rfl) ?_ fun Q2 hQ2 ⟨d, hd⟩ I2 hI2 => ?_
      ·simp +decide -implicitDefEqProofs (maxSteps := 4000000) only [go_sem, mostTo, plT, plC, hcw, hau]
      ·by_cases hlt : (d : Int) < 10
       ·have hd1 := Go.Pm.wS (k := d) (by omega)
        have z := cntC_at ys 0 (show d < 10 by omega)
        have hmx : max (mostTo ys 0 d : Int) (cntD ys 0 (d : Int)) = ((mostTo ys 0 (d + 1) : Nat) : Int) := by
         show _ = ((max (mostTo ys 0 d) (cntD ys 0 (d : Int)) : Nat) : Int)
         omega
        simp +decide -implicitDefEqProofs (maxSteps := 4000000) only [go_sem, hlt, z, hmx]
        refine hI2 _ ⟨d + 1, by omega⟩ (by simp only; omega) ?_
        simp +decide -implicitDefEqProofs (maxSteps := 4000000) only [go_sem, hd1, plT, plC, hcw, hau]
       ·have hde : d = 10 := by omega
        subst hde
        simp +decide -implicitDefEqProofs (maxSteps := 4000000) only [go_sem]
        refine hQ2 _ _ ?_
        have hm0 := hmo 0
        by_cases hl0 : left = 0
        ·rw [if_pos (.inl hl0)] at has
         subst hl0
         simp +decide -implicitDefEqProofs (maxSteps := 4000000) only [go_sem, plC]
         refine hI1 _ ⟨1, by omega⟩ (by simp only; omega) ?_
         simp +decide -implicitDefEqProofs (maxSteps := 4000000) only [go_sem, has, plC, plT, hcw, hau]
        ·have hl0' : ((left : Int) == 0) = false := by simp; exact hl0
         by_cases hlm : mostTo ys 0 10 < left
         ·rw [if_pos (.inr hlm)] at has
          have hlm' : ((mostTo ys 0 10 : Nat) : Int) < (left : Int) := by omega
          simp +decide -implicitDefEqProofs (maxSteps := 4000000) only [go_sem, plC, hl0', hlm']
          refine hI1 _ ⟨1, by omega⟩ (by simp only; omega) ?_
          simp +decide -implicitDefEqProofs (maxSteps := 4000000) only [go_sem, has, plC, plT, hcw, hau]
         ·rw [if_neg (fun h => h.elim hl0 hlm)] at has
          have hlm' : ¬ ((mostTo ys 0 10 : Nat) : Int) < (left : Int) := by omega
          simp +decide -implicitDefEqProofs (maxSteps := 4000000) only [go_sem, plC, hl0', hlm']
          refine hI1 _ ⟨1, by omega⟩ (by simp only; omega) ?_
          simp +decide -implicitDefEqProofs (maxSteps := 4000000) only [go_sem, has, plC, plT, hcw, hau]
     ·simp only [hat]
      simp +decide -implicitDefEqProofs (maxSteps := 4000000) only [go_sem, plC, plT, key_pp, nf01]
      refine pwpC_loopU (A := { d : Nat // d ≤ 10 }) [2, 3, 6, 12, 77, 78, 79, 85] (fun d => [(86, .t (.int .i64 d.1)), (13, .t (.int .i64 (mostTo ys 1 d.1)))]) (fun _ => []) (fun d => 10 - d.1) ⟨0, by omega⟩ (by decide) (fun _ => by rfl) ?_ fun Q2 hQ2 ⟨d, hd⟩ I2 hI2 => ?_
      ·simp +decide -implicitDefEqProofs (maxSteps := 4000000) only [go_sem, mostTo, plT, plC, hcw, hau]
      ·by_cases hlt : (d : Int) < 10
       ·have hd1 := Go.Pm.wS (k := d) (by omega)
        have z := cntC_at ys 1 (show d < 10 by omega)
        have hmx : max (mostTo ys 1 d : Int) (cntD ys 1 (d : Int)) = ((mostTo ys 1 (d + 1) : Nat) : Int) := by
         show _ = ((max (mostTo ys 1 d) (cntD ys 1 (d : Int)) : Nat) : Int)
         omega
        simp +decide -implicitDefEqProofs (maxSteps := 4000000) only [go_sem, hlt, z, hmx]
        refine hI2 _ ⟨d + 1, by omega⟩ (by simp only; omega) ?_
        simp +decide -implicitDefEqProofs (maxSteps := 4000000) only [go_sem, hd1, plT, plC, hcw, hau]
       ·have hde : d = 10 := by omega
        subst hde
        simp +decide -implicitDefEqProofs (maxSteps := 4000000) only [go_sem]
        refine hQ2 _ _ ?_
        have hm0 := hmo 1
        by_cases hl0 : left = 0
        ·rw [if_pos (.inl hl0)] at has
         subst hl0
         simp +decide -implicitDefEqProofs (maxSteps := 4000000) only [go_sem, plC]
         refine hI1 _ ⟨2, by omega⟩ (by simp only; omega) ?_
         simp +decide -implicitDefEqProofs (maxSteps := 4000000) only [go_sem, has, plC, plT, hcw, hau]
        ·have hl0' : ((left : Int) == 0) = false := by simp; exact hl0
         by_cases hlm : mostTo ys 1 10 < left
         ·rw [if_pos (.inr hlm)] at has
          have hlm' : ((mostTo ys 1 10 : Nat) : Int) < (left : Int) := by omega
          simp +decide -implicitDefEqProofs (maxSteps := 4000000) only [go_sem, plC, hl0', hlm']
          refine hI1 _ ⟨2, by omega⟩ (by simp only; omega) ?_
          simp +decide -implicitDefEqProofs (maxSteps := 4000000) only [go_sem, has, plC, plT, hcw, hau]
         ·rw [if_neg (fun h => h.elim hl0 hlm)] at has
          have hlm' : ¬ ((mostTo ys 1 10 : Nat) : Int) < (left : Int) := by omega
          simp +decide -implicitDefEqProofs (maxSteps := 4000000) only [go_sem, plC, hl0', hlm']
          refine hI1 _ ⟨2, by omega⟩ (by simp only; omega) ?_
          simp +decide -implicitDefEqProofs (maxSteps := 4000000) only [go_sem, has, plC, plT, hcw, hau]
     ·simp only [hat]
      simp +decide -implicitDefEqProofs (maxSteps := 4000000) only [go_sem, plC, plT, key_pp, nf02, nf12]
      refine pwpC_loopU (A := { d : Nat // d ≤ 10 }) [2, 3, 6, 12, 77, 78, 79, 85] (fun d => [(86, .t (.int .i64 d.1)), (13, .t (.int .i64 (mostTo ys 2 d.1)))]) (fun _ => []) (fun d => 10 - d.1) ⟨0, by omega⟩ (by decide) (fun _ => by rfl) ?_ fun Q2 hQ2 ⟨d, hd⟩ I2 hI2 => ?_
      ·simp +decide -implicitDefEqProofs (maxSteps := 4000000) only [go_sem, mostTo, plT, plC, hcw, hau]
      ·by_cases hlt : (d : Int) < 10
       ·have hd1 := Go.Pm.wS (k := d) (by omega)
        have z := cntC_at ys 2 (show d < 10 by omega)
        have hmx : max (mostTo ys 2 d : Int) (cntD ys 2 (d : Int)) = ((mostTo ys 2 (d + 1) : Nat) : Int) := by
         show _ = ((max (mostTo ys 2 d) (cntD ys 2 (d : Int)) : Nat) : Int)
         omega
        simp +decide -implicitDefEqProofs (maxSteps := 4000000) only [go_sem, hlt, z, hmx]
        refine hI2 _ ⟨d + 1, by omega⟩ (by simp only; omega) ?_
        simp +decide -implicitDefEqProofs (maxSteps := 4000000) only [go_sem, hd1, plT, plC, hcw, hau]
       ·have hde : d = 10 := by omega
        subst hde
        simp +decide -implicitDefEqProofs (maxSteps := 4000000) only [go_sem]
        refine hQ2 _ _ ?_
        have hm0 := hmo 2
        by_cases hl0 : left = 0
        ·rw [if_pos (.inl hl0)] at has
         subst hl0
         simp +decide -implicitDefEqProofs (maxSteps := 4000000) only [go_sem, plC]
         refine hI1 _ ⟨3, by omega⟩ (by simp only; omega) ?_
         simp +decide -implicitDefEqProofs (maxSteps := 4000000) only [go_sem, has, plC, plT, hcw, hau]
        ·have hl0' : ((left : Int) == 0) = false := by simp; exact hl0
         by_cases hlm : mostTo ys 2 10 < left
         ·rw [if_pos (.inr hlm)] at has
          have hlm' : ((mostTo ys 2 10 : Nat) : Int) < (left : Int) := by omega
          simp +decide -implicitDefEqProofs (maxSteps := 4000000) only [go_sem, plC, hl0', hlm']
          refine hI1 _ ⟨3, by omega⟩ (by simp only; omega) ?_
          simp +decide -implicitDefEqProofs (maxSteps := 4000000) only [go_sem, has, plC, plT, hcw, hau]
         ·rw [if_neg (fun h => h.elim hl0 hlm)] at has
          have hlm' : ¬ ((mostTo ys 2 10 : Nat) : Int) < (left : Int) := by omega
          simp +decide -implicitDefEqProofs (maxSteps := 4000000) only [go_sem, plC, hl0', hlm']
          refine hI1 _ ⟨3, by omega⟩ (by simp only; omega) ?_
          simp +decide -implicitDefEqProofs (maxSteps := 4000000) only [go_sem, has, plC, plT, hcw, hau]
     ·simp only [hat]
      simp +decide -implicitDefEqProofs (maxSteps := 4000000) only [go_sem, plC, plT, key_pp, nf03, nf13, nf23]
      refine pwpC_loopU (A := { d : Nat // d ≤ 10 }) [2, 3, 6, 12, 77, 78, 79, 85] (fun d => [(86, .t (.int .i64 d.1)), (13, .t (.int .i64 (mostTo ys 3 d.1)))]) (fun _ => []) (fun d => 10 - d.1) ⟨0, by omega⟩ (by decide) (fun _ => by rfl) ?_ fun Q2 hQ2 ⟨d, hd⟩ I2 hI2 => ?_
      ·simp +decide -implicitDefEqProofs (maxSteps := 4000000) only [go_sem, mostTo, plT, plC, hcw, hau]
      ·by_cases hlt : (d : Int) < 10
       ·have hd1 := Go.Pm.wS (k := d) (by omega)
        have z := cntC_at ys 3 (show d < 10 by omega)
        have hmx : max (mostTo ys 3 d : Int) (cntD ys 3 (d : Int)) = ((mostTo ys 3 (d + 1) : Nat) : Int) := by
         show _ = ((max (mostTo ys 3 d) (cntD ys 3 (d : Int)) : Nat) : Int)
         omega
        simp +decide -implicitDefEqProofs (maxSteps := 4000000) only [go_sem, hlt, z, hmx]
        refine hI2 _ ⟨d + 1, by omega⟩ (by simp only; omega) ?_
        simp +decide -implicitDefEqProofs (maxSteps := 4000000) only [go_sem, hd1, plT, plC, hcw, hau]
       ·have hde : d = 10 := by omega
        subst hde
        simp +decide -implicitDefEqProofs (maxSteps := 4000000) only [go_sem]
        refine hQ2 _ _ ?_
        have hm0 := hmo 3
        by_cases hl0 : left = 0
        ·rw [if_pos (.inl hl0)] at has
         subst hl0
         simp +decide -implicitDefEqProofs (maxSteps := 4000000) only [go_sem, plC]
         refine hI1 _ ⟨4, by omega⟩ (by simp only; omega) ?_
         simp +decide -implicitDefEqProofs (maxSteps := 4000000) only [go_sem, has, plC, plT, hcw, hau]
        ·have hl0' : ((left : Int) == 0) = false := by simp; exact hl0
         by_cases hlm : mostTo ys 3 10 < left
         ·rw [if_pos (.inr hlm)] at has
          have hlm' : ((mostTo ys 3 10 : Nat) : Int) < (left : Int) := by omega
          simp +decide -implicitDefEqProofs (maxSteps := 4000000) only [go_sem, plC, hl0', hlm']
          refine hI1 _ ⟨4, by omega⟩ (by simp only; omega) ?_
          simp +decide -implicitDefEqProofs (maxSteps := 4000000) only [go_sem, has, plC, plT, hcw, hau]
         ·rw [if_neg (fun h => h.elim hl0 hlm)] at has
          have hlm' : ¬ ((mostTo ys 3 10 : Nat) : Int) < (left : Int) := by omega
          simp +decide -implicitDefEqProofs (maxSteps := 4000000) only [go_sem, plC, hl0', hlm']
          refine hI1 _ ⟨4, by omega⟩ (by simp only; omega) ?_
          simp +decide -implicitDefEqProofs (maxSteps := 4000000) only [go_sem, has, plC, plT, hcw, hau]
     ·simp only [hat]
      simp +decide -implicitDefEqProofs (maxSteps := 4000000) only [go_sem, plC, plT, key_pp, nf04, nf14, nf24, nf34]
      refine pwpC_loopU (A := { d : Nat // d ≤ 10 }) [2, 3, 6, 12, 77, 78, 79, 85] (fun d => [(86, .t (.int .i64 d.1)), (13, .t (.int .i64 (mostTo ys 4 d.1)))]) (fun _ => []) (fun d => 10 - d.1) ⟨0, by omega⟩ (by decide) (fun _ => by rfl) ?_ fun Q2 hQ2 ⟨d, hd⟩ I2 hI2 => ?_
      ·simp +decide -implicitDefEqProofs (maxSteps := 4000000) only [go_sem, mostTo, plT, plC, hcw, hau]
      ·by_cases hlt : (d : Int) < 10
       ·have hd1 := Go.Pm.wS (k := d) (by omega)
        have z := cntC_at ys 4 (show d < 10 by omega)
        have hmx : max (mostTo ys 4 d : Int) (cntD ys 4 (d : Int)) = ((mostTo ys 4 (d + 1) : Nat) : Int) := by
         show _ = ((max (mostTo ys 4 d) (cntD ys 4 (d : Int)) : Nat) : Int)
         omega
        simp +decide -implicitDefEqProofs (maxSteps := 4000000) only [go_sem, hlt, z, hmx]
        refine hI2 _ ⟨d + 1, by omega⟩ (by simp only; omega) ?_
        simp +decide -implicitDefEqProofs (maxSteps := 4000000) only [go_sem, hd1, plT, plC, hcw, hau]
       ·have hde : d = 10 := by omega
        subst hde
        simp +decide -implicitDefEqProofs (maxSteps := 4000000) only [go_sem]
        refine hQ2 _ _ ?_
        have hm0 := hmo 4
        by_cases hl0 : left = 0
        ·rw [if_pos (.inl hl0)] at has
         subst hl0
         simp +decide -implicitDefEqProofs (maxSteps := 4000000) only [go_sem, plC]
         refine hI1 _ ⟨5, by omega⟩ (by simp only; omega) ?_
         simp +decide -implicitDefEqProofs (maxSteps := 4000000) only [go_sem, has, plC, plT, hcw, hau]
        ·have hl0' : ((left : Int) == 0) = false := by simp; exact hl0
         by_cases hlm : mostTo ys 4 10 < left
         ·rw [if_pos (.inr hlm)] at has
          have hlm' : ((mostTo ys 4 10 : Nat) : Int) < (left : Int) := by omega
          simp +decide -implicitDefEqProofs (maxSteps := 4000000) only [go_sem, plC, hl0', hlm']
          refine hI1 _ ⟨5, by omega⟩ (by simp only; omega) ?_
          simp +decide -implicitDefEqProofs (maxSteps := 4000000) only [go_sem, has, plC, plT, hcw, hau]
         ·rw [if_neg (fun h => h.elim hl0 hlm)] at has
          have hlm' : ¬ ((mostTo ys 4 10 : Nat) : Int) < (left : Int) := by omega
          simp +decide -implicitDefEqProofs (maxSteps := 4000000) only [go_sem, plC, hl0', hlm']
          refine hI1 _ ⟨5, by omega⟩ (by simp only; omega) ?_
          simp +decide -implicitDefEqProofs (maxSteps := 4000000) only [go_sem, has, plC, plT, hcw, hau]
     ·simp only [hat]
      simp +decide -implicitDefEqProofs (maxSteps := 4000000) only [go_sem]
      refine hQ1 _ _ ?_
      have hR2 : R = .tup [plT at0, .int .i64 left, .int .i64 0] := by
       rw [← hR]
       show TV.tup [plT (askTo ys [a0, a1, a2, a3, a4] 5).1, .int .i64 (askTo ys [a0, a1, a2, a3, a4] 5).2, .int .i64 0] = _
       rw [hat]
      simp +decide -implicitDefEqProofs (maxSteps := 4000000) only [go_sem, hR2, plT, plC]
end Go.Proofs.YtdkboibnokipaaaDoor

namespace Go.Ow
open Go Go.RowKit Go.Pm
def plLt (a b : Pl) : Prop := a.1 < b.1 ∨ (a.1 = b.1 ∧ (a.2.1 < b.2.1 ∨ (a.2.1 = b.2.1 ∧ a.2.2 < b.2.2)))
theorem pw_flat {f : Nat → List Pl} {R : Pl → Pl → Prop} (h1 : ∀ i, (f i).Pairwise R) (h2 : ∀ i j a b, i < j → a ∈ f i → b ∈ f j → R a b) : ∀ n, ((List.range n).flatMap f).Pairwise R
 | 0 => List.Pairwise.nil
 | n + 1 => by
  rw [List.range_succ, List.flatMap_append, List.pairwise_append]
  refine ⟨pw_flat h1 h2 n, by simpa using h1 n, fun a ha b hb => ?_⟩
  rw [List.mem_flatMap] at ha
  obtain ⟨i, hi, ha⟩ := ha
  rw [List.mem_range] at hi
  exact h2 i n a b hi ha (by simpa using hb)
theorem upS_pw (i k : Nat) (s : ByteArray) (n : Nat) : (upS i k s n).Pairwise plLt := pw_flat (fun x => by split <;> simp) (fun x y a b hxy ha hb => by
 split at ha
 ·split at hb
  ·rw [List.mem_singleton] at ha hb
   subst ha; subst hb
   exact .inr ⟨rfl, .inr ⟨rfl, hxy⟩⟩
  ·cases hb
 ·cases ha) n
theorem upR_pw (i : Nat) (r : List ByteArray) (n : Nat) : (upR i r n).Pairwise plLt := pw_flat (fun x => upS_pw _ _ _ _) (fun x y a b hxy ha hb => by
 obtain ⟨h1, h2, _⟩ := mem_upS.1 ha
 obtain ⟨h3, h4, _⟩ := mem_upS.1 hb
 exact .inr ⟨by omega, .inl (by omega)⟩) n
theorem places_pw (p : List (List ByteArray)) : (placesP p).Pairwise plLt := pw_flat (fun x => upR_pw _ _ _) (fun x y a b hxy ha hb => by
 obtain ⟨h1, _⟩ := mem_upR.1 ha
 obtain ⟨h3, _⟩ := mem_upR.1 hb
 exact .inl (by omega)) _
theorem plLt_ne {a b : Pl} (h : plLt a b) : a ≠ b := by
 rintro rfl
 unfold plLt at h
 omega
theorem pw_get {l : List Pl} (h : l.Pairwise plLt) {i j : Nat} {a b : Pl} (ha : l[i]? = some a) (hb : l[j]? = some b) (hij : i < j) : plLt a b := by
 obtain ⟨h1, rfl⟩ := List.getElem?_eq_some_iff.1 ha
 obtain ⟨h2, rfl⟩ := List.getElem?_eq_some_iff.1 hb
 exact List.pairwise_iff_getElem.1 h i j h1 h2 hij
end Go.Ow
namespace Go.Proofs.YtdkboibnokipaaaDoor
open Go.RowKit Go.Pm Go.Ow
theorem wAsk0_c {s : TV} {p : List (List ByteArray)} (hs : pgR s p) (hv : validB p = true) (hL : placesP p = []) : PCalls Tryd.prog 19 [s] (askT p) := by
 have hll : (placesP p).length ≤ 5 := by rw [places_len]; exact (valid_len hv).2
 have hsp := spW2_ok hs hv
 have hsz : (readG p).length ≤ 100000 := readG_size hll
 obtain ⟨R, hR⟩ : ∃ R, askT p = R := ⟨_, rfl⟩
 rw [hR]
 unfold askT at hR
 rw [hL] at hR
 have hT : lostT [] = .nilSl := rfl
 refine pcalls_by Tryd.mixes hsp (fn := Tryd.f19) Tryd.func19 rfl (by kernel_rfl) (by show 1 ≤ _; decide) ?_
 simp +decide -implicitDefEqProofs (maxSteps := 4000000) only [go_sem, Tryd.f19, hL, hT]
 refine pwpC_rangeY rfl 82 [7] [7, 2] [7, 2] ((readG p).map fun g => [dgT g]) [(2, .ptr 0 0), (3, .t (.int .i64 0)), (4, .t (.int .i64 0)), (5, .ptr 3 0), (6, .gptr 5 0 0), (7, .ptr 6 0), (27, .fnc 82 [7])]
   [.box [.t (.int .i64 0), .t (.int .i64 0), .t (.int .i64 0)], .box [.junk, .junk, .junk], .mp 84 (mapD fun _ => none), .box [.t s, .t .nilSl, .mapr 2], .mpk 106 [] [], .grow 0 [.mapr 4] 106 1, .box [.t (.int .i64 0)], .box [.t s, .t .nilSl, .mapr 2]]
   (fun i => [.box [.t (.int .i64 0), .t (.int .i64 0), .t (.int .i64 0)], .box [.junk, .junk, .junk], .res, .box [.t s, .t .nilSl, .junk], .mpk 106 [] [], .grow 0 [.mapr 4] 106 1, .box [.t (.int .i64 i)], .res]) 8 (readG p).length false .normal ?_ (by rfl) (by rfl) (by rfl) ?_ ?_ ?_ ?_ ?_ ?_ ?_ ?_ ?_ ?_
 ·simp +decide -implicitDefEqProofs (maxSteps := 4000000) only [go_sem]
 ·rfl
 ·rfl
 ·exact ⟨_, Tryd.func82, rfl, rfl⟩
 ·intro l
  obtain ⟨D', h⟩ := wReadY_c hs hv ⟨l, (readG p).map fun g => [dgT g], (readG p).length, false⟩ rfl ⟨fun i g hg => by
   rw [Nat.zero_add]
   show ((readG p).map fun g => [dgT g])[i]? = _
   rw [List.getElem?_map, hg]; rfl, by show 0 + (readG p).length ≤ (readG p).length; omega⟩
  rw [hL] at h
  exact ⟨_, _, h, rfl⟩
 ·intro x hx
  obtain ⟨g, _, rfl⟩ := List.mem_map.1 hx
  rfl
 ·intro _
  exact ⟨(List.length_map _).symm, rfl⟩
 ·intro h; cases h
 ·intro i; exact Nat.le_refl _
 ·intro i x hi hx
  rw [List.getElem?_map, Option.map_eq_some_iff] at hx
  obtain ⟨g, hg, rfl⟩ := hx
  have hdg := readG_dig (List.mem_of_getElem? hg)
  rw [hL] at hdg
  have hg1 : dgT g = .nilSl := by unfold dgT; rw [if_pos (show g.length = 0 from hdg.1)]
  have hi1 := Go.Pm.wS (k := i) (by omega)
  simp +decide -implicitDefEqProofs (maxSteps := 4000000) only [go_sem, hg1, hi1]
  refine pwpC_loopU (A := Unit) [31, 32] (fun _ => [(33, .t (.int .i64 0))]) (fun _ => []) (fun _ => 0) () (by decide) (fun _ => by rfl) ?_ fun Q1 hQ1 ⟨⟩ I1 hI1 => ?_
  ·simp +decide -implicitDefEqProofs (maxSteps := 4000000) only [go_sem]
  ·simp +decide -implicitDefEqProofs (maxSteps := 4000000) only [go_sem]
   refine hQ1 _ _ ?_
   simp +decide -implicitDefEqProofs (maxSteps := 4000000) only [go_sem]
 ·by_cases h0 : (readG p).length = 0
  ·rw [if_pos h0] at hR
   subst hR
   rw [h0]
   simp +decide -implicitDefEqProofs (maxSteps := 4000000) only [go_sem]
  ·rw [if_neg h0] at hR
   have hz : (((readG p).length : Int) == 0) = false := by simp; exact List.ne_nil_of_length_pos (by omega)
   by_cases h1 : (readG p).length = 1
   ·rw [if_pos h1] at hR
    subst hR
    rw [h1]
    simp +decide -implicitDefEqProofs (maxSteps := 4000000) only [go_sem]
   ·rw [if_neg h1] at hR
    have hz1 : (((readG p).length : Int) == 1) = false := by simp; omega
    simp +decide -implicitDefEqProofs (maxSteps := 4000000) only [go_sem, hz, hz1]
    refine pwpC_loopU (A := Unit) [2, 3, 6, 77, 78] (fun _ => [(79, .t (.int .i64 0))]) (fun _ => []) (fun _ => 0) () (by decide) (fun _ => by rfl) ?_ fun Q1 hQ1 ⟨⟩ I1 hI1 => ?_
    ·simp +decide -implicitDefEqProofs (maxSteps := 4000000) only [go_sem]
    ·simp +decide -implicitDefEqProofs (maxSteps := 4000000) only [go_sem]
     refine hQ1 _ _ ?_
     have hR2 : R = .tup [.agg [.int .i64 0, .int .i64 0, .int .i64 0], .int .i64 0, .int .i64 0] := hR.symm
     simp +decide -implicitDefEqProofs (maxSteps := 4000000) only [go_sem, hR2]
theorem wAsk_c {s : TV} {p : List (List ByteArray)} (hs : pgR s p) (hv : validB p = true) : PCalls Tryd.prog 19 [s] (askT p) := by
 have hll : (placesP p).length ≤ 5 := by rw [places_len]; exact (valid_len hv).2
 have hpw := places_pw p
 match hL : placesP p, hll, hpw with
 | [], _, _ => exact wAsk0_c hs hv hL
 | [a0], _, _ => exact wAsk1_c hs hv hL
 | [a0, a1], _, h => exact wAsk2_c hs hv hL (plLt_ne (pw_get h (i := 0) (j := 1) rfl rfl (by decide)))
 | [a0, a1, a2], _, h => exact wAsk3_c hs hv hL (plLt_ne (pw_get h (i := 0) (j := 1) rfl rfl (by decide))) (plLt_ne (pw_get h (i := 0) (j := 2) rfl rfl (by decide))) (plLt_ne (pw_get h (i := 1) (j := 2) rfl rfl (by decide)))
 | [a0, a1, a2, a3], _, h => exact wAsk4_c hs hv hL (plLt_ne (pw_get h (i := 0) (j := 1) rfl rfl (by decide))) (plLt_ne (pw_get h (i := 0) (j := 2) rfl rfl (by decide))) (plLt_ne (pw_get h (i := 0) (j := 3) rfl rfl (by decide))) (plLt_ne (pw_get h (i := 1) (j := 2) rfl rfl (by decide))) (plLt_ne (pw_get h (i := 1) (j := 3) rfl rfl (by decide))) (plLt_ne (pw_get h (i := 2) (j := 3) rfl rfl (by decide)))
 | [a0, a1, a2, a3, a4], _, h => exact wAsk5_c hs hv hL (plLt_ne (pw_get h (i := 0) (j := 1) rfl rfl (by decide))) (plLt_ne (pw_get h (i := 0) (j := 2) rfl rfl (by decide))) (plLt_ne (pw_get h (i := 0) (j := 3) rfl rfl (by decide))) (plLt_ne (pw_get h (i := 0) (j := 4) rfl rfl (by decide))) (plLt_ne (pw_get h (i := 1) (j := 2) rfl rfl (by decide))) (plLt_ne (pw_get h (i := 1) (j := 3) rfl rfl (by decide))) (plLt_ne (pw_get h (i := 1) (j := 4) rfl rfl (by decide))) (plLt_ne (pw_get h (i := 2) (j := 3) rfl rfl (by decide))) (plLt_ne (pw_get h (i := 2) (j := 4) rfl rfl (by decide))) (plLt_ne (pw_get h (i := 3) (j := 4) rfl rfl (by decide)))
 | _ :: _ :: _ :: _ :: _ :: _ :: l, h, _ => simp at h
end Go.Proofs.YtdkboibnokipaaaDoor

namespace Go.Ow
open Go Go.Pm
structure WRec where
 kind : Int
 day : Int
 num : Int
 by_ : ByteArray
 new : Int
def recT (r : WRec) : List TV := [.int .i64 r.kind, .int .i64 r.day, .int .i64 r.num, .str r.by_, .int .i64 r.new]
def recL (l : List WRec) : List TV := l.flatMap recT
theorem recL_cons (r : WRec) (l : List WRec) : recL (r :: l) = recT r ++ recL l := by simp [recL]
theorem recL_drop : ∀ (l : List WRec) (k : Nat), (recL l).drop (k * 5) = recL (l.drop k)
 | l, 0 => by simp
 | [], k + 1 => by simp [recL]
 | r :: l, k + 1 => by
  rw [recL_cons, List.drop_succ_cons, ← recL_drop l k]
  have e : (k + 1) * 5 = 5 + k * 5 := by omega
  rw [e, ← List.drop_drop]
  rfl
theorem recL_at {l : List WRec} {k : Nat} {r : WRec} (h : l[k]? = some r) : (recL l).drop (k * 5) = recT r ++ recL (l.drop (k + 1)) := by
 rw [recL_drop]
 have hk := (List.getElem?_eq_some_iff.1 h).1
 rw [List.drop_eq_getElem_cons hk, recL_cons]
 have := List.getElem?_eq_getElem hk
 rw [h] at this
 rw [← Option.some.inj this]
theorem recL_len (l : List WRec) : (recL l).length = l.length * 5 := by
 induction l with
 | nil => rfl
 | cons r l ih => rw [recL_cons, List.length_append, ih]; simp [recT]; omega
def metP (l : List WRec) (n : Int) : Bool := l.any fun r => r.num == n || r.new == n
end Go.Ow
namespace Go.Proofs.YtdkboibnokipaaaDoor
open Go.RowKit Go.Pm Go.Ow
theorem wMet_c (l : List WRec) (f : Bool) (n : Int) (b : Nat) (hb : b ≤ l.length) (hl : l.length ≤ 1000000) : PCalls Tryd.prog 166 [.sl (recL l) l.length f, .int .i64 n, .int .i64 b] (.bool (metP (l.take b) n)) := by
 refine pcalls_by Tryd.mixes noSpec_ok (fn := Tryd.f166) Tryd.func166 rfl (by kernel_rfl) (by show 3 ≤ _; decide) ?_
 have h1 : (b : Int) ≤ l.length := by omega
 have h2 := recL_len l
 have h3 : (recL l).take (b * 5) = recL (l.take b) := by
  have e : recL l = recL (l.take b) ++ recL (l.drop b) := by unfold recL; rw [← List.flatMap_append, List.take_append_drop]
  rw [e]
  have e2 : b * 5 = (recL (l.take b)).length := by rw [recL_len, List.length_take, Nat.min_eq_left hb]
  rw [e2, List.take_left]
 simp +decide (maxSteps := 4000000) only [go_sem, Tryd.f166, h1, h2, h3]
 have hML : (l.take b).length = b := by rw [List.length_take, Nat.min_eq_left hb]
 generalize l.take b = M at *
 refine pwpC_loopU (A := { k : Nat // k ≤ b ∧ ∀ (j : Nat) (r : WRec), j < k → M[j]? = some r → (r.num == n || r.new == n) = false }) [1, 11, 12] (fun k => [(13, .t (.int .i64 k.1))]) (fun _ => []) (fun k => b - k.1) ⟨0, Nat.zero_le _, fun j x hj => absurd hj (by omega)⟩ (by decide) (fun _ => by rfl) ?_ fun Q1 hQ1 ⟨k, hk, hall⟩ I1 hI1 => ?_
 ·simp +decide (maxSteps := 4000000) only [go_sem]
 ·by_cases hlt : (k : Int) < b
  ·obtain ⟨r, hr⟩ : ∃ r, M[k]? = some r := ⟨_, List.getElem?_eq_getElem (by omega)⟩
   have d1 := recL_at hr
   have hk1 := Go.Pm.wS (k := k) (by omega)
   cases c : (r.num == n || r.new == n) with
   | true =>
    have ea : metP M n = true := by unfold metP; rw [List.any_eq_true]; exact ⟨r, List.mem_of_getElem? hr, c⟩
    cases c1 : (r.num == n) with
    | true =>
     simp +decide (maxSteps := 4000000) only [go_sem, hlt, d1, recT, c1]
     refine hQ1 _ _ ?_
     simp +decide (maxSteps := 4000000) only [go_sem, ea]
    | false =>
     have c2 : (r.new == n) = true := by rw [c1] at c; simpa using c
     simp +decide (maxSteps := 4000000) only [go_sem, hlt, d1, recT, c1, c2]
     refine hQ1 _ _ ?_
     simp +decide (maxSteps := 4000000) only [go_sem, ea]
   | false =>
    have hc := Bool.or_eq_false_iff.1 c
    simp +decide (maxSteps := 4000000) only [go_sem, hlt, d1, recT, hc.1, hc.2, hk1]
    refine hI1 _ ⟨k + 1, by omega, fun j x hj hx => ?_⟩ (by simp only; omega) ?_
    ·rcases Nat.lt_or_ge j k with h | h
     ·exact hall j x h hx
     ·have : j = k := by omega
      subst this; rw [hr] at hx; cases hx; exact c
    ·simp +decide (maxSteps := 4000000) only [go_sem]
  ·simp +decide (maxSteps := 4000000) only [go_sem, hlt]
   refine hQ1 _ _ ?_
   have ea : metP M n = false := by
    unfold metP
    rw [List.any_eq_false]
    intro x hx
    obtain ⟨j, hj, rfl⟩ := List.getElem_of_mem hx
    simpa using hall j _ (by omega) (List.getElem?_eq_getElem hj)
   simp +decide (maxSteps := 4000000) only [go_sem, ea]
end Go.Proofs.YtdkboibnokipaaaDoor

namespace Go.Ow
open Go Go.Pm
def usedP (l : List WRec) (n : Int) : Nat → Bool
 | 0 => false
 | k + 1 => match l[k]? with
  | none => false
  | some r => if n == r.new then r.kind == 3 else if n == r.num then r.kind == 1 || r.kind == 2 else usedP l n k
end Go.Ow
namespace Go.Proofs.YtdkboibnokipaaaDoor
open Go.RowKit Go.Pm Go.Ow
theorem wUsed_c (l : List WRec) (f : Bool) (n : Int) (b : Nat) (hb : b ≤ l.length) (hl : l.length ≤ 1000000) : PCalls Tryd.prog 167 [.sl (recL l) l.length f, .int .i64 n, .int .i64 b] (.bool (usedP l n b)) := by
 refine pcalls_by Tryd.mixes (Spec.gdt_ok noSpec_ok) (fn := Tryd.f167) Tryd.func167 rfl (by kernel_rfl) (by show 3 ≤ _; decide) ?_
 have hw : IntKind.i64.wrap ((b : Int) - 1) = (b : Int) - 1 := wrap_in (by omega) (by omega)
 simp +decide (maxSteps := 4000000) only [go_sem, Tryd.f167, hw]
 refine pwpC_loopU (A := { k : Nat // k ≤ b ∧ usedP l n b = usedP l n k }) [0, 1] (fun k => [(7, .t (.int .i64 ((k.1 : Int) - 1)))]) (fun _ => []) (fun k => k.1) ⟨b, Nat.le_refl _, rfl⟩ (by decide) (fun _ => by rfl) ?_ fun Q1 hQ1 ⟨k, hk, hu⟩ I1 hI1 => ?_
 ·simp +decide (maxSteps := 4000000) only [go_sem]
 ·rw [hu] at hQ1
  cases k with
  | zero =>
   have hn : ¬ ((0 : Nat) : Int) - 1 ≥ 0 := by omega
   simp +decide (maxSteps := 4000000) only [go_sem, hn]
   refine hQ1 _ _ ?_
   simp +decide (maxSteps := 4000000) only [go_sem, usedP]
  | succ k =>
   have e1 : ((k + 1 : Nat) : Int) - 1 = (k : Int) := by omega
   have hge : (k : Int) ≥ 0 := by omega
   have hlt : (k : Int) < l.length := by omega
   have hw2 : IntKind.i64.wrap ((k : Int) - 1) = (k : Int) - 1 := wrap_in (by omega) (by omega)
   obtain ⟨r, hr⟩ : ∃ r, l[k]? = some r := ⟨_, List.getElem?_eq_getElem (by omega)⟩
   have d1 := recL_at hr
   cases c1 : (n == r.new) with
   | true =>
    have ea : usedP l n (k + 1) = (r.kind == 3) := by simp only [usedP, hr, c1, if_true]
    simp +decide (maxSteps := 4000000) only [go_sem, e1, hge, hlt, d1, recT, c1, hw2]
    refine hQ1 _ _ ?_
    simp +decide (maxSteps := 4000000) only [go_sem, ea]
   | false =>
    cases c2 : (n == r.num) with
    | true =>
     have ea : usedP l n (k + 1) = (r.kind == 1 || r.kind == 2) := by simp [usedP, hr, c1, c2]
     cases c3 : (r.kind == 1) with
     | true =>
      rw [c3, Bool.true_or] at ea
      simp +decide (maxSteps := 4000000) only [go_sem, e1, hge, hlt, d1, recT, c1, c2, c3, hw2]
      refine hQ1 _ _ ?_
      simp +decide (maxSteps := 4000000) only [go_sem, ea]
     | false =>
      rw [c3, Bool.false_or] at ea
      simp +decide (maxSteps := 4000000) only [go_sem, e1, hge, hlt, d1, recT, c1, c2, c3, hw2]
      refine hQ1 _ _ ?_
      simp +decide (maxSteps := 4000000) only [go_sem, ea]
    | false =>
     have ea : usedP l n (k + 1) = usedP l n k := by simp [usedP, hr, c1, c2]
     simp +decide (maxSteps := 4000000) only [go_sem, e1, hge, hlt, d1, recT, c1, c2, hw2]
     refine hI1 _ ⟨k, by omega, hu.trans ea⟩ (by simp only; omega) ?_
     simp +decide (maxSteps := 4000000) only [go_sem]
end Go.Proofs.YtdkboibnokipaaaDoor

namespace Go.Ow
open Go Go.Pm
def kindP (l : List WRec) (k : Nat) (r : WRec) : Bool :=
 if r.kind == 1 then nameB r.by_ && (r.new == 0 && !metP (l.take k) r.num)
 else if r.kind == 2 then nameB r.by_ && (r.new == 0 && usedP l r.num k)
 else if r.kind == 3 then decide (r.by_.size = 0) && (inW r.new 1 99999 && (r.new != r.num && (!metP (l.take k) r.new && usedP l r.num k)))
 else decide (r.by_.size = 0) && (r.new == 0 && usedP l r.num k)
def recP (l : List WRec) (k : Nat) (d : Int) (r : WRec) : Bool := inW r.kind 1 4 && (inW r.day d 100000 && (inW r.num 1 99999 && kindP l k r))
def dayB (l : List WRec) : Nat → Int
 | 0 => 0
 | k + 1 => match l[k]? with | some r => r.day | none => 0
def okTo (l : List WRec) : Nat → Bool
 | 0 => true
 | k + 1 => okTo l k && (match l[k]? with | some r => recP l k (dayB l k) r | none => false)
def bookB (l : List WRec) : Bool := decide (l.length ≤ 40) && okTo l l.length
def cur (l : List WRec) : Nat → Int → Option Nat
 | 0, _ => none
 | k + 1, n => match l[k]? with
  | none => cur l k n
  | some r => if r.kind = 1 ∧ r.num = n then some k
   else if r.kind = 3 ∧ r.new = n then cur l k r.num
   else if (r.kind = 3 ∨ r.kind = 4) ∧ r.num = n then none
   else cur l k n
structure RecOk (l : List WRec) (k : Nat) (r : WRec) : Prop where
 kind : r.kind = 1 ∨ r.kind = 2 ∨ r.kind = 3 ∨ r.kind = 4
 day : dayB l k ≤ r.day ∧ r.day ≤ 100000
 num : 1 ≤ r.num ∧ r.num ≤ 99999
 made : r.kind = 1 → nameB r.by_ = true ∧ r.new = 0 ∧ metP (l.take k) r.num = false
 mend : r.kind = 2 → nameB r.by_ = true ∧ r.new = 0 ∧ usedP l r.num k = true
 again : r.kind = 3 → r.by_.size = 0 ∧ (1 ≤ r.new ∧ r.new ≤ 99999) ∧ r.new ≠ r.num ∧ metP (l.take k) r.new = false ∧ usedP l r.num k = true
 lost : r.kind = 4 → r.by_.size = 0 ∧ r.new = 0 ∧ usedP l r.num k = true
theorem inW_iff {n a b : Int} : inW n a b = true ↔ a ≤ n ∧ n ≤ b := by unfold inW; simp
theorem recP_ok {l : List WRec} {k : Nat} {d : Int} {r : WRec} (hd : d = dayB l k) (h : recP l k d r = true) : RecOk l k r := by
 subst hd
 unfold recP kindP at h
 simp only [Bool.and_eq_true, inW_iff] at h
 obtain ⟨h1, h2, h3, h4⟩ := h
 have hk : r.kind = 1 ∨ r.kind = 2 ∨ r.kind = 3 ∨ r.kind = 4 := by omega
 refine ⟨hk, h2, h3, fun e => ?_, fun e => ?_, fun e => ?_, fun e => ?_⟩ <;> simpa [e, inW_iff] using h4
theorem ok_rec {l : List WRec} : ∀ {k : Nat}, okTo l k = true → ∀ {j : Nat} {r : WRec}, j < k → l[j]? = some r → RecOk l j r
 | 0, _, j, r, hj, _ => by omega
 | k + 1, h, j, r, hj, hr => by
  simp only [okTo, Bool.and_eq_true] at h
  rcases Nat.lt_or_ge j k with hlt | hge
  ·exact ok_rec h.1 hlt hr
  ·have : j = k := by omega
   subst this
   rw [hr] at h
   exact recP_ok rfl h.2
theorem ok_less {l : List WRec} : ∀ {k j : Nat}, okTo l k = true → j ≤ k → okTo l j = true
 | 0, j, h, hj => by rw [show j = 0 by omega]; rfl
 | k + 1, j, h, hj => by
  by_cases e : j = k + 1
  ·subst e; exact h
  ·simp only [okTo, Bool.and_eq_true] at h
   exact ok_less h.1 (by omega)
theorem ok_len {l : List WRec} : ∀ {k : Nat}, okTo l k = true → k ≤ l.length
 | 0, _ => Nat.zero_le _
 | k + 1, h => by
  simp only [okTo, Bool.and_eq_true] at h
  cases hr : l[k]? with
  | none => rw [hr] at h; exact absurd h.2 (by simp)
  | some r => have := (List.getElem?_eq_some_iff.1 hr).1; omega
theorem metP_iff {l : List WRec} {k : Nat} {n : Int} : metP (l.take k) n = true ↔ ∃ (j : Nat) (r : WRec), j < k ∧ l[j]? = some r ∧ (r.num = n ∨ r.new = n) := by
 unfold metP
 rw [List.any_eq_true]
 constructor
 ·rintro ⟨r, hr, h⟩
  obtain ⟨j, hj, e⟩ := List.getElem_of_mem hr
  rw [List.length_take] at hj
  rw [List.getElem_take] at e
  refine ⟨j, r, by omega, by rw [← e]; exact List.getElem?_eq_getElem (by omega), by simpa using h⟩
 ·rintro ⟨j, r, hj, hr, h⟩
  refine ⟨r, List.mem_of_getElem? (i := j) ?_, by simpa using h⟩
  rw [List.getElem?_take, if_pos hj]; exact hr
theorem cur_step {l : List WRec} {k : Nat} {r : WRec} (hr : l[k]? = some r) (n : Int) : cur l (k + 1) n = if r.kind = 1 ∧ r.num = n then some k else if r.kind = 3 ∧ r.new = n then cur l k r.num else if (r.kind = 3 ∨ r.kind = 4) ∧ r.num = n then none else cur l k n := by
 simp only [cur, hr]
theorem used_cur {l : List WRec} : ∀ {k : Nat}, okTo l k = true → ∀ {n : Int}, 1 ≤ n → usedP l n k = (cur l k n).isSome
 | 0, _, n, _ => rfl
 | k + 1, h, n, hn => by
  have hk := ok_less h (Nat.le_succ k)
  have hlen := ok_len h
  obtain ⟨r, hr⟩ : ∃ r, l[k]? = some r := ⟨_, List.getElem?_eq_getElem (by omega)⟩
  have ho := ok_rec h (Nat.lt_succ_self k) hr
  have ih := fun {m : Int} (hm : 1 ≤ m) => used_cur hk hm
  rw [cur_step hr]
  have e : usedP l n (k + 1) = if n == r.new then r.kind == 3 else if n == r.num then r.kind == 1 || r.kind == 2 else usedP l n k := by simp only [usedP, hr]
  rw [e]
  rcases ho.kind with hk1 | hk1 | hk1 | hk1
  ·have hm := ho.made hk1
   by_cases e2 : r.num = n
   ·have : ¬ n = r.new := by omega
    simp [hk1, e2, hm.2.1, this]
    omega
   ·have : ¬ n = 0 := by omega
    have e3 : ¬ n = r.num := fun e => e2 e.symm
    simp [hk1, e2, hm.2.1, this, e3, ih hn]
  ·have hm := ho.mend hk1
   have h0 : ¬ n = 0 := by omega
   by_cases e2 : n = r.num
   ·subst e2
    have := hm.2.2
    rw [ih hn] at this
    simp [hk1, hm.2.1, h0, this]
   ·simp [hk1, hm.2.1, h0, e2, ih hn]
  ·have hm := ho.again hk1
   by_cases e1 : n = r.new
   ·subst e1
    have := hm.2.2.2.2
    rw [ih ho.num.1] at this
    simp [hk1, this]
   ·have e1' : ¬ r.new = n := fun e => e1 e.symm
    by_cases e2 : n = r.num
    ·subst e2
     simp [hk1, e1, e1']
    ·have e2' : ¬ r.num = n := fun e => e2 e.symm
     simp [hk1, e1, e1', e2, e2', ih hn]
  ·have hm := ho.lost hk1
   have h0 : ¬ n = 0 := by omega
   by_cases e2 : n = r.num
   ·subst e2
    simp [hk1, hm.2.1, h0]
   ·have e2' : ¬ r.num = n := fun e => e2 e.symm
    simp [hk1, hm.2.1, h0, e2, e2', ih hn]
def gotR (n : Int) (r : WRec) : Bool := (r.kind == 1 && r.num == n) || (r.kind == 3 && r.new == n)
theorem gotR_iff {n : Int} {r : WRec} : gotR n r = true ↔ (r.kind = 1 ∧ r.num = n) ∨ (r.kind = 3 ∧ r.new = n) := by unfold gotR; simp
theorem got_fresh {l : List WRec} {k : Nat} {r : WRec} {n : Int} (ho : RecOk l k r) (h : gotR n r = true) : metP (l.take k) n = false := by
 rcases gotR_iff.1 h with ⟨h1, rfl⟩ | ⟨h1, rfl⟩
 ·exact (ho.made h1).2.2
 ·exact (ho.again h1).2.2.2.1
theorem got_uni {l : List WRec} {K j k : Nat} {r s : WRec} {n : Int} (h : okTo l K = true) (hj : j < K) (hk : k < K) (hr : l[j]? = some r) (hs : l[k]? = some s) (gr : gotR n r = true) (gs : gotR n s = true) : j = k := by
 have key : ∀ {j k : Nat} {r s : WRec}, j < k → k < K → l[j]? = some r → l[k]? = some s → gotR n r = true → gotR n s = true → False := by
  intro j k r s hjk hk hr hs gr gs
  have h1 := got_fresh (ok_rec h hk hs) gs
  have h2 : metP (l.take k) n = true := metP_iff.2 ⟨j, r, hjk, hr, by rcases gotR_iff.1 gr with h | h; exact .inl h.2; exact .inr h.2⟩
  rw [h1] at h2; cases h2
 rcases Nat.lt_trichotomy j k with h | h | h
 ·exact (key h hk hr hs gr gs).elim
 ·exact h
 ·exact (key h hj hs hr gs gr).elim
def goneR (n : Int) (r : WRec) : Bool := r.num == n && (r.kind == 3 || r.kind == 4)
theorem goneR_iff {n : Int} {r : WRec} : goneR n r = true ↔ r.num = n ∧ (r.kind = 3 ∨ r.kind = 4) := by unfold goneR; simp
theorem cur_got {l : List WRec} {j : Nat} {r : WRec} {n : Int} (hr : l[j]? = some r) (hg : gotR n r = true) : cur l (j + 1) n = if r.kind = 1 then some j else cur l j r.num := by
 rw [cur_step hr]
 rcases gotR_iff.1 hg with ⟨h1, h2⟩ | ⟨h1, h2⟩
 ·rw [if_pos ⟨h1, h2⟩, if_pos h1]
 ·rw [if_neg (by omega), if_pos ⟨h1, h2⟩, if_neg (by omega)]
theorem cur_from {l : List WRec} {K j : Nat} {r : WRec} {n : Int} (h : okTo l K = true) (hj : j < K) (hr : l[j]? = some r) (hg : gotR n r = true) : ∀ (k : Nat), j < k → k ≤ K → cur l k n = if (l.take k).any (goneR n) then none else cur l (j + 1) n := by
 intro k
 induction k with
 | zero => intro hk; omega
 | succ k ih =>
  intro hjk hkK
  have hlen := ok_len h
  obtain ⟨s, hs⟩ : ∃ s, l[k]? = some s := ⟨_, List.getElem?_eq_getElem (by omega)⟩
  have htk : l.take (k + 1) = l.take k ++ [s] := by rw [List.take_add_one, hs]; rfl
  rw [htk, List.any_append]
  by_cases e : j = k
  ·subst e
   rw [hr] at hs
   cases hs
   have h0 : (l.take j).any (goneR n) = false := by
    rw [List.any_eq_false]
    intro x hx hgx
    have hm := got_fresh (ok_rec h hj hr) hg
    have : metP (l.take j) n = true := by
     unfold metP; rw [List.any_eq_true]
     exact ⟨x, hx, by simp [(goneR_iff.1 hgx).1]⟩
    rw [hm] at this; cases this
   have h1 : goneR n r = false := by
    cases hh : goneR n r with
    | false => rfl
    | true =>
     rcases gotR_iff.1 hg with ⟨h1, h2⟩ | ⟨h1, h2⟩
     ·have := (goneR_iff.1 hh).2; omega
     ·have := (ok_rec h hj hr).again h1
      exact absurd ((goneR_iff.1 hh).1.trans h2.symm) (fun e => this.2.2.1 e.symm)
   simp [h0, h1]
  ·have ihk := ih (by omega) (by omega)
   have hng : gotR n s = false := by
    cases hh : gotR n s with
    | false => rfl
    | true => exact absurd (got_uni h hj (by omega) hr hs hg hh) e
   have hng' := mt gotR_iff.2 (by rw [hng]; decide)
   rw [cur_step hs, if_neg (fun e => hng' (.inl e)), if_neg (fun e => hng' (.inr e)), ihk]
   cases hgn : goneR n s with
   | true =>
    have := goneR_iff.1 hgn
    rw [if_pos ⟨this.2, this.1⟩]
    simp [hgn]
   | false =>
    have := mt goneR_iff.2 (by rw [hgn]; decide)
    rw [if_neg (fun e => this ⟨e.2, e.1⟩)]
    simp [hgn]
theorem cur_not {l : List WRec} {n : Int} : ∀ {k : Nat}, (∀ (j : Nat) (r : WRec), j < k → l[j]? = some r → gotR n r = false) → cur l k n = none
 | 0, _ => rfl
 | k + 1, h => by
  have ih := cur_not (l := l) (n := n) (k := k) (fun j r hj hr => h j r (by omega) hr)
  cases hr : l[k]? with
  | none => simp only [cur, hr]; exact ih
  | some r =>
   have hng' := mt gotR_iff.2 (by rw [h k r (by omega) hr]; decide)
   rw [cur_step hr, if_neg (fun e => hng' (.inl e)), if_neg (fun e => hng' (.inr e)), ih]
   split <;> rfl
theorem cur_has {l : List WRec} {k : Nat} {n : Int} {i : Nat} (h : cur l k n = some i) : ∃ (j : Nat) (r : WRec), j < k ∧ l[j]? = some r ∧ gotR n r = true := by
 apply Classical.byContradiction
 intro hn
 have := cur_not (l := l) (n := n) (k := k) (fun j r hj hr => by
  cases hg : gotR n r with
  | false => rfl
  | true => exact absurd ⟨j, r, hj, hr, hg⟩ hn)
 rw [this] at h; cases h
theorem cur_first {l : List WRec} {K k j : Nat} {r : WRec} {n : Int} {i : Nat} (h : okTo l K = true) (hk : k ≤ K) (hc : cur l k n = some i) (hj : j < K) (hr : l[j]? = some r) (hg : gotR n r = true) : j < k ∧ cur l (j + 1) n = some i := by
 obtain ⟨j', r', h1, h2, h3⟩ := cur_has hc
 have e := got_uni h hj (by omega) hr h2 hg h3
 subst e
 refine ⟨h1, ?_⟩
 rw [cur_from h hj hr hg k h1 hk] at hc
 split at hc
 ·cases hc
 ·exact hc
theorem cur_made {l : List WRec} : ∀ {k : Nat} {n : Int} {i : Nat}, cur l k n = some i → ∃ r, l[i]? = some r ∧ r.kind = 1
 | 0, n, i, h => by cases h
 | k + 1, n, i, h => by
  cases hr : l[k]? with
  | none => simp only [cur, hr] at h; exact cur_made h
  | some r =>
   rw [cur_step hr] at h
   split at h
   ·rename_i hc; cases h; exact ⟨r, hr, hc.1⟩
   ·split at h
    ·exact cur_made h
    ·split at h
     ·cases h
     ·exact cur_made h
def upTo (l : List WRec) (d : Int) : Nat → Nat
 | 0 => 0
 | k + 1 => match l[k]? with | some r => if r.day ≤ d then k + 1 else upTo l d k | none => upTo l d k
theorem day_mono {l : List WRec} {K : Nat} (h : okTo l K = true) : ∀ {k j : Nat} {r s : WRec}, j ≤ k → k < K → l[j]? = some r → l[k]? = some s → r.day ≤ s.day
 | 0, j, r, s, hj, hk, hr, hs => by
  have : j = 0 := by omega
  subst this; rw [hr] at hs; cases hs; exact Int.le_refl _
 | k + 1, j, r, s, hj, hk, hr, hs => by
  by_cases e : j = k + 1
  ·subst e; rw [hr] at hs; cases hs; exact Int.le_refl _
  ·have hlen := ok_len h
   obtain ⟨t, ht⟩ : ∃ t, l[k]? = some t := ⟨_, List.getElem?_eq_getElem (by omega)⟩
   have h1 := day_mono h (show j ≤ k by omega) (by omega) hr ht
   have h2 := (ok_rec h hk hs).day.1
   simp only [dayB, ht] at h2
   omega
theorem upTo_le {l : List WRec} {d : Int} : ∀ {k : Nat}, upTo l d k ≤ k
 | 0 => Nat.le_refl _
 | k + 1 => by
  unfold upTo
  split
  ·split
   ·exact Nat.le_refl _
   ·exact Nat.le_succ_of_le upTo_le
  ·exact Nat.le_succ_of_le upTo_le
theorem upTo_iff {l : List WRec} {d : Int} {K : Nat} (h : okTo l K = true) : ∀ {k j : Nat} {r : WRec}, k ≤ K → j < k → l[j]? = some r → (r.day ≤ d ↔ j < upTo l d k)
 | 0, j, r, _, hj, _ => by omega
 | k + 1, j, r, hk, hj, hr => by
  have hlen := ok_len h
  obtain ⟨s, hs⟩ : ∃ s, l[k]? = some s := ⟨_, List.getElem?_eq_getElem (by omega)⟩
  have hm := day_mono h (show j ≤ k by omega) (by omega) hr hs
  have e : upTo l d (k + 1) = if s.day ≤ d then k + 1 else upTo l d k := by simp only [upTo, hs]
  rw [e]
  split
  ·exact ⟨fun _ => hj, fun _ => by omega⟩
  ·by_cases e2 : j = k
   ·subst e2
    rw [hr] at hs; cases hs
    have := upTo_le (l := l) (d := d) (k := j)
    exact ⟨fun h => by omega, fun h => by omega⟩
   ·exact upTo_iff h (by omega) (by omega) hr
end Go.Ow

namespace Go.Proofs.YtdkboibnokipaaaDoor
open Go.RowKit Go.Pm Go.Ow
noncomputable def wkIsName : List TV → Option TV
 | [.str s] => some (.bool (nameB s))
 | _ => none
theorem wkIsName_ok : ∀ xs r, wkIsName xs = some r → PCalls Tryd.prog 74 xs r := by
 intro xs r h
 unfold wkIsName at h
 split at h
 ·cases h; exact wIsName_c _
 ·cases h
attribute [go_sem] wkIsName
noncomputable def spWf (l : List WRec) (f : Bool) (k : Nat) (n : Int) : Pm.Spec := ((((spWa.one 68 wkIsNumber).one 74 wkIsName).one 166 (oneP [.sl (recL l) l.length f, .int .i64 n, .int .i64 k] (.bool (metP (l.take k) n)))).one 167 (oneP [.sl (recL l) l.length f, .int .i64 n, .int .i64 k] (.bool (usedP l n k)))).gdt
theorem spWf_ok {l : List WRec} {f : Bool} {k : Nat} (n : Int) (hk : k ≤ l.length) (hl : l.length ≤ 40) : SpecOk Tryd.prog (spWf l f k n) := Spec.gdt_ok (Spec.one_ok (oneP_ok (wUsed_c l f n k hk (by omega))) (Spec.one_ok (oneP_ok (wMet_c l f n k hk (by omega))) (Spec.one_ok wkIsName_ok (Spec.one_ok wkIsNumber_ok spWa_ok))))
theorem emptyB (s : ByteArray) : (s.toList == ByteArray.toList (ByteArray.mk #[])) = decide (s.size = 0) := by
 rw [ByteArray.toList_eq, ByteArray.toList_eq, Bool.eq_iff_iff, beq_iff_eq, decide_eq_true_eq]
 constructor
 ·intro e
  have := congrArg List.length e
  rw [Array.length_toList] at this
  exact this
 ·intro e
  exact List.eq_nil_of_length_eq_zero (by rw [Array.length_toList]; exact e)
section
variable {l : List WRec} (f : Bool) {k : Nat} {r : WRec} (hr : l[k]? = some r) (hl : l.length ≤ 40)
include hr hl
theorem wMade_c : PCalls Tryd.prog 163 [.sl (recL l) l.length f, .int .i64 k] (.bool (nameB r.by_ && (r.new == 0 && !metP (l.take k) r.num))) := by
 have hk := (List.getElem?_eq_some_iff.1 hr).1
 refine pcalls_by Tryd.mixes (spWf_ok (f := f) r.num (Nat.le_of_lt hk) hl) (fn := Tryd.f163) Tryd.func163 rfl (by kernel_rfl) (by show 2 ≤ _; decide) ?_
 have hlt : (k : Int) < l.length := by omega
 have d1 := recL_at hr
 cases c1 : nameB r.by_ with
 | false => simp +decide (maxSteps := 4000000) only [go_sem, Tryd.f163, spWf, hlt, d1, recT, c1]
 | true =>
  cases c2 : (r.new == 0) with
  | false => simp +decide (maxSteps := 4000000) only [go_sem, Tryd.f163, spWf, hlt, d1, recT, c1, c2]
  | true => simp +decide (maxSteps := 4000000) only [go_sem, Tryd.f163, spWf, hlt, d1, recT, c1, c2]
theorem wMended_c : PCalls Tryd.prog 164 [.sl (recL l) l.length f, .int .i64 k] (.bool (nameB r.by_ && (r.new == 0 && usedP l r.num k))) := by
 have hk := (List.getElem?_eq_some_iff.1 hr).1
 refine pcalls_by Tryd.mixes (spWf_ok (f := f) r.num (Nat.le_of_lt hk) hl) (fn := Tryd.f164) Tryd.func164 rfl (by kernel_rfl) (by show 2 ≤ _; decide) ?_
 have hlt : (k : Int) < l.length := by omega
 have d1 := recL_at hr
 cases c1 : nameB r.by_ with
 | false => simp +decide (maxSteps := 4000000) only [go_sem, Tryd.f164, spWf, hlt, d1, recT, c1]
 | true =>
  cases c2 : (r.new == 0) with
  | false => simp +decide (maxSteps := 4000000) only [go_sem, Tryd.f164, spWf, hlt, d1, recT, c1, c2]
  | true => simp +decide (maxSteps := 4000000) only [go_sem, Tryd.f164, spWf, hlt, d1, recT, c1, c2]
theorem wLost_c : PCalls Tryd.prog 165 [.sl (recL l) l.length f, .int .i64 k] (.bool (decide (r.by_.size = 0) && (r.new == 0 && usedP l r.num k))) := by
 have hk := (List.getElem?_eq_some_iff.1 hr).1
 refine pcalls_by Tryd.mixes (spWf_ok (f := f) r.num (Nat.le_of_lt hk) hl) (fn := Tryd.f165) Tryd.func165 rfl (by kernel_rfl) (by show 2 ≤ _; decide) ?_
 have hlt : (k : Int) < l.length := by omega
 have d1 := recL_at hr
 have e := emptyB r.by_
 cases c1 : decide (r.by_.size = 0) with
 | false =>
  rw [c1] at e
  simp +decide (maxSteps := 4000000) only [go_sem, Tryd.f165, spWf, hlt, d1, recT, e]
 | true =>
  rw [c1] at e
  cases c2 : (r.new == 0) with
  | false => simp +decide (maxSteps := 4000000) only [go_sem, Tryd.f165, spWf, hlt, d1, recT, e, c2]
  | true => simp +decide (maxSteps := 4000000) only [go_sem, Tryd.f165, spWf, hlt, d1, recT, e, c2]
end
noncomputable def spWg (l : List WRec) (f : Bool) (k : Nat) (n m : Int) : Pm.Spec := (((spWa.one 68 wkIsNumber).one 166 (oneP [.sl (recL l) l.length f, .int .i64 n, .int .i64 k] (.bool (metP (l.take k) n)))).one 167 (oneP [.sl (recL l) l.length f, .int .i64 m, .int .i64 k] (.bool (usedP l m k)))).gdt
theorem spWg_ok {l : List WRec} {f : Bool} {k : Nat} (n m : Int) (hk : k ≤ l.length) (hl : l.length ≤ 40) : SpecOk Tryd.prog (spWg l f k n m) := Spec.gdt_ok (Spec.one_ok (oneP_ok (wUsed_c l f m k hk (by omega))) (Spec.one_ok (oneP_ok (wMet_c l f n k hk (by omega))) (Spec.one_ok wkIsNumber_ok spWa_ok)))
theorem wAgain_c {l : List WRec} (f : Bool) {k : Nat} {r : WRec} (hr : l[k]? = some r) (hl : l.length ≤ 40) : PCalls Tryd.prog 160 [.sl (recL l) l.length f, .int .i64 k] (.bool (decide (r.by_.size = 0) && (inW r.new 1 99999 && (r.new != r.num && (!metP (l.take k) r.new && usedP l r.num k))))) := by
 have hk := (List.getElem?_eq_some_iff.1 hr).1
 refine pcalls_by Tryd.mixes (spWg_ok (f := f) r.new r.num (Nat.le_of_lt hk) hl) (fn := Tryd.f160) Tryd.func160 rfl (by kernel_rfl) (by show 2 ≤ _; decide) ?_
 have hlt : (k : Int) < l.length := by omega
 have d1 := recL_at hr
 have e := emptyB r.by_
 cases c1 : decide (r.by_.size = 0) with
 | false =>
  rw [c1] at e
  simp +decide -implicitDefEqProofs (maxSteps := 4000000) only [go_sem, Tryd.f160, spWg, hlt, d1, recT, e]
 | true =>
  rw [c1] at e
  cases c2 : inW r.new 1 99999 with
  | false => simp +decide -implicitDefEqProofs (maxSteps := 4000000) only [go_sem, Tryd.f160, spWg, hlt, d1, recT, e, c2]
  | true =>
   cases c3 : (r.new != r.num) with
   | false => simp +decide -implicitDefEqProofs (maxSteps := 4000000) only [go_sem, Tryd.f160, spWg, hlt, d1, recT, e, c2, c3]
   | true =>
    cases c4 : metP (l.take k) r.new with
    | true => simp +decide -implicitDefEqProofs (maxSteps := 4000000) only [go_sem, Tryd.f160, spWg, hlt, d1, recT, e, c2, c3, c4]
    | false => simp +decide -implicitDefEqProofs (maxSteps := 4000000) only [go_sem, Tryd.f160, spWg, hlt, d1, recT, e, c2, c3, c4]
end Go.Proofs.YtdkboibnokipaaaDoor

namespace Go.Ow
open Go Go.RowKit Go.Pm
open Classical in
noncomputable def atP (s0 : TV) (g : Nat → Option TV) : List TV → Option TV
 | [s, .int .i64 i] => if s = s0 ∧ 0 ≤ i then g i.toNat else none
 | _ => none
@[go_sem] theorem atP_eq (s0 : TV) (g : Nat → Option TV) (k : Nat) : atP s0 g [s0, .int .i64 k] = g k := by
 simp [atP]
theorem atP_ok {P : Program} {f : FuncId} {s0 : TV} {g : Nat → Option TV} (h : ∀ k v, g k = some v → PCalls P f [s0, .int .i64 k] v) : ∀ a r, atP s0 g a = some r → PCalls P f a r := by
 intro a r e
 unfold atP at e
 split at e
 ·split at e
  ·rename_i i hc
   obtain ⟨rfl, h0⟩ := hc
   have := h _ _ e
   rwa [Int.toNat_of_nonneg h0] at this
  ·cases e
 ·cases e
end Go.Ow
namespace Go.Proofs.YtdkboibnokipaaaDoor
open Go.RowKit Go.Pm Go.Ow
@[go_sem] theorem globP_kinds : globP 0 = .t (.cptr [.fn 163 [] [], .fn 164 [] [], .fn 160 [] [], .fn 165 [] []]) := rfl
theorem wr0 : IntKind.i64.wrap 0 = 0 := rfl
theorem wr1 : IntKind.i64.wrap 1 = 1 := rfl
theorem wr2 : IntKind.i64.wrap 2 = 2 := rfl
theorem wr3 : IntKind.i64.wrap 3 = 3 := rfl
def bkT (s : TV) (l : List WRec) : Prop := (s = .nilSl ∧ l = []) ∨ ∃ f, s = .sl (recL l) l.length f
noncomputable def spWh (l : List WRec) (f : Bool) : Pm.Spec := (((((spWa.one 68 wkIsNumber).one 163 (atP (.sl (recL l) l.length f) fun k => (l[k]?).map fun r => .bool (nameB r.by_ && (r.new == 0 && !metP (l.take k) r.num)))).one 164 (atP (.sl (recL l) l.length f) fun k => (l[k]?).map fun r => .bool (nameB r.by_ && (r.new == 0 && usedP l r.num k)))).one 160 (atP (.sl (recL l) l.length f) fun k => (l[k]?).map fun r => .bool (decide (r.by_.size = 0) && (inW r.new 1 99999 && (r.new != r.num && (!metP (l.take k) r.new && usedP l r.num k)))))).one 165 (atP (.sl (recL l) l.length f) fun k => (l[k]?).map fun r => .bool (decide (r.by_.size = 0) && (r.new == 0 && usedP l r.num k)))).gdt
theorem spWh_ok {l : List WRec} {f : Bool} (hl : l.length ≤ 40) : SpecOk Tryd.prog (spWh l f) := by
 refine Spec.gdt_ok (Spec.one_ok (atP_ok fun k v e => ?_) (Spec.one_ok (atP_ok fun k v e => ?_) (Spec.one_ok (atP_ok fun k v e => ?_) (Spec.one_ok (atP_ok fun k v e => ?_) (Spec.one_ok wkIsNumber_ok spWa_ok)))))
 all_goals
  cases hr : l[k]? with
  | none => rw [hr] at e; cases e
  | some r => rw [hr] at e; cases e; first | exact wLost_c f hr hl | exact wAgain_c f hr hl | exact wMended_c f hr hl | exact wMade_c f hr hl
theorem wCheckBook_c {s : TV} {l : List WRec} (hs : bkT s l) (hL : l.length ≤ 140737488355328) : PCalls Tryd.prog 28 [s] (.int .i64 (if bookB l then 0 else 92)) := by
 rcases hs with ⟨rfl, rfl⟩ | ⟨f, rfl⟩
 ·refine pcalls_by Tryd.mixes (spWh_ok (l := []) (f := true) (by decide)) (fn := Tryd.f28) Tryd.func28 rfl (by kernel_rfl) (by show 1 ≤ _; decide) ?_
  simp +decide -implicitDefEqProofs (maxSteps := 4000000) only [go_sem, Tryd.f28, spWh]
  refine pwpC_loopU (A := Unit) [0, 2, 3] (fun _ => [(4, .t (.int .i64 0)), (5, .t (.int .i64 0))]) (fun _ => []) (fun _ => 0) () (by decide) (fun _ => by rfl) ?_ fun Q1 hQ1 _ I1 hI1 => ?_
  ·simp +decide -implicitDefEqProofs (maxSteps := 4000000) only [go_sem]
  ·simp +decide -implicitDefEqProofs (maxSteps := 4000000) only [go_sem]
   refine hQ1 _ _ ?_
   have e : bookB [] = true := by decide
   simp +decide -implicitDefEqProofs (maxSteps := 4000000) only [go_sem, e]
 ·by_cases hl : l.length ≤ 40
  ·refine pcalls_by Tryd.mixes (spWh_ok (f := f) hl) (fn := Tryd.f28) Tryd.func28 rfl (by kernel_rfl) (by show 1 ≤ _; decide) ?_
   have h40 : (l.length : Int) ≤ 40 := by omega
   have eb : bookB l = okTo l l.length := by unfold bookB; rw [decide_eq_true hl, Bool.true_and]
   rw [eb]
   simp +decide -implicitDefEqProofs (maxSteps := 4000000) only [go_sem, Tryd.f28, spWh, h40]
   refine pwpC_loopU (A := { k : Nat // k ≤ l.length ∧ (okTo l k = false → okTo l l.length = false) }) [0, 2] (fun k => [(3, .t (.bool (okTo l k.1))), (4, .t (.int .i64 (dayB l k.1))), (5, .t (.int .i64 k.1))]) (fun _ => []) (fun k => l.length - k.1) ⟨0, Nat.zero_le _, fun h => by cases h⟩ (by decide) (fun _ => by rfl) ?_ fun Q1 hQ1 ⟨k, hk, hbad⟩ I1 hI1 => ?_
   ·simp +decide -implicitDefEqProofs (maxSteps := 4000000) only [go_sem, okTo, dayB]
   ·rcases Bool.eq_false_or_eq_true (okTo l k) with ho | ho
    rotate_left
    ·have hb := hbad ho
     simp +decide -implicitDefEqProofs (maxSteps := 4000000) only [go_sem, ho]
     refine hQ1 _ _ ?_
     simp +decide -implicitDefEqProofs (maxSteps := 4000000) only [go_sem, hb]
    ·by_cases hlt : (k : Int) < l.length
     ·obtain ⟨r, hr⟩ : ∃ r, l[k]? = some r := ⟨_, List.getElem?_eq_getElem (by omega)⟩
      have d1 := recL_at hr
      have hle : k * 5 + 5 ≤ (recL l).length := by rw [recL_len]; omega
      have hk1 := Go.Pm.wS (k := k) (by omega)
      have eo : okTo l (k + 1) = recP l k (dayB l k) r := by simp only [okTo, ho, hr, Bool.true_and]
      have ed : dayB l (k + 1) = r.day := by simp only [dayB, hr]
      have hnx : okTo l (k + 1) = false → okTo l l.length = false := fun e => by
       cases h : okTo l l.length with
       | false => rfl
       | true => rw [ok_less h (show k + 1 ≤ l.length by omega)] at e; cases e
      rw [eo] at hnx
      cases c1 : inW r.kind 1 4 with
      | false =>
       have er : recP l k (dayB l k) r = false := by unfold recP; rw [c1]; rfl
       simp +decide -implicitDefEqProofs (maxSteps := 4000000) only [go_sem, ho, hlt, d1, hle, recT, c1, hr]
       refine hI1 _ ⟨k + 1, by omega, by rw [eo]; exact hnx⟩ (by simp only; omega) ?_
       simp +decide -implicitDefEqProofs (maxSteps := 4000000) only [go_sem, eo, ed, er, hk1]
      | true =>
       cases c2 : inW r.day (dayB l k) 100000 with
       | false =>
        have er : recP l k (dayB l k) r = false := by unfold recP; rw [c1, c2]; rfl
        simp +decide -implicitDefEqProofs (maxSteps := 4000000) only [go_sem, ho, hlt, d1, hle, recT, c1, c2, hr]
        refine hI1 _ ⟨k + 1, by omega, by rw [eo]; exact hnx⟩ (by simp only; omega) ?_
        simp +decide -implicitDefEqProofs (maxSteps := 4000000) only [go_sem, eo, ed, er, hk1]
       | true =>
        cases c3 : inW r.num 1 99999 with
        | false =>
         have er : recP l k (dayB l k) r = false := by unfold recP; rw [c1, c2, c3]; rfl
         simp +decide -implicitDefEqProofs (maxSteps := 4000000) only [go_sem, ho, hlt, d1, hle, recT, c1, c2, c3, hr]
         refine hI1 _ ⟨k + 1, by omega, by rw [eo]; exact hnx⟩ (by simp only; omega) ?_
         simp +decide -implicitDefEqProofs (maxSteps := 4000000) only [go_sem, eo, ed, er, hk1]
        | true =>
         have er : recP l k (dayB l k) r = kindP l k r := by unfold recP; rw [c1, c2, c3]; rfl
         have hkd := inW_iff.1 c1
         have h4 : r.kind = 1 ∨ r.kind = 2 ∨ r.kind = 3 ∨ r.kind = 4 := by omega
         rcases h4 with h4 | h4 | h4 | h4
         ·have e2 : kindP l k r = (nameB r.by_ && (r.new == 0 && !metP (l.take k) r.num)) := by unfold kindP; rw [h4]; rfl
          rw [h4] at c1
          simp +decide -implicitDefEqProofs (maxSteps := 4000000) only [go_sem, ho, hlt, d1, hle, recT, h4, c1, c2, c3, hr, wr0, wr1, wr2, wr3]
          refine hI1 _ ⟨k + 1, by omega, by rw [eo]; exact hnx⟩ (by simp only; omega) ?_
          simp +decide -implicitDefEqProofs (maxSteps := 4000000) only [go_sem, eo, ed, er, e2, hk1]
         ·have e2 : kindP l k r = (nameB r.by_ && (r.new == 0 && usedP l r.num k)) := by unfold kindP; rw [h4]; rfl
          rw [h4] at c1
          simp +decide -implicitDefEqProofs (maxSteps := 4000000) only [go_sem, ho, hlt, d1, hle, recT, h4, c1, c2, c3, hr, wr0, wr1, wr2, wr3]
          refine hI1 _ ⟨k + 1, by omega, by rw [eo]; exact hnx⟩ (by simp only; omega) ?_
          simp +decide -implicitDefEqProofs (maxSteps := 4000000) only [go_sem, eo, ed, er, e2, hk1]
         ·have e2 : kindP l k r = (decide (r.by_.size = 0) && (inW r.new 1 99999 && (r.new != r.num && (!metP (l.take k) r.new && usedP l r.num k)))) := by unfold kindP; rw [h4]; rfl
          rw [h4] at c1
          simp +decide -implicitDefEqProofs (maxSteps := 4000000) only [go_sem, ho, hlt, d1, hle, recT, h4, c1, c2, c3, hr, wr0, wr1, wr2, wr3]
          refine hI1 _ ⟨k + 1, by omega, by rw [eo]; exact hnx⟩ (by simp only; omega) ?_
          simp +decide -implicitDefEqProofs (maxSteps := 4000000) only [go_sem, eo, ed, er, e2, hk1]
         ·have e2 : kindP l k r = (decide (r.by_.size = 0) && (r.new == 0 && usedP l r.num k)) := by unfold kindP; rw [h4]; rfl
          rw [h4] at c1
          simp +decide -implicitDefEqProofs (maxSteps := 4000000) only [go_sem, ho, hlt, d1, hle, recT, h4, c1, c2, c3, hr, wr0, wr1, wr2, wr3]
          refine hI1 _ ⟨k + 1, by omega, by rw [eo]; exact hnx⟩ (by simp only; omega) ?_
          simp +decide -implicitDefEqProofs (maxSteps := 4000000) only [go_sem, eo, ed, er, e2, hk1]
     ·have e : k = l.length := by omega
      subst e
      simp +decide -implicitDefEqProofs (maxSteps := 4000000) only [go_sem, ho, hlt]
      refine hQ1 _ _ ?_
      simp +decide -implicitDefEqProofs (maxSteps := 4000000) only [go_sem, ho]
  ·refine pcalls_by Tryd.mixes (spWh_ok (l := []) (f := true) (by decide)) (fn := Tryd.f28) Tryd.func28 rfl (by kernel_rfl) (by show 1 ≤ _; decide) ?_
   have h40 : ¬ (l.length : Int) ≤ 40 := by omega
   have eb : bookB l = false := by unfold bookB; rw [decide_eq_false hl, Bool.false_and]
   rw [eb]
   simp +decide -implicitDefEqProofs (maxSteps := 4000000) only [go_sem, Tryd.f28, spWh, h40]
   refine pwpC_loopU (A := Unit) [0, 2, 3] (fun _ => [(4, .t (.int .i64 0)), (5, .t (.int .i64 0))]) (fun _ => []) (fun _ => 0) () (by decide) (fun _ => by rfl) ?_ fun Q1 hQ1 _ I1 hI1 => ?_
   ·simp +decide -implicitDefEqProofs (maxSteps := 4000000) only [go_sem]
   ·simp +decide -implicitDefEqProofs (maxSteps := 4000000) only [go_sem]
    refine hQ1 _ _ ?_
    simp +decide -implicitDefEqProofs (maxSteps := 4000000) only [go_sem]
end Go.Proofs.YtdkboibnokipaaaDoor

namespace Go.Ow
open Go Go.Pm
def bearN (l : List WRec) (n d : Int) : Option Nat := cur l (upTo l d l.length) n
def marksK (l : List WRec) (i : Nat) (d : Int) : Nat → List ByteArray
 | 0 => []
 | k + 1 => marksK l i d k ++ (match l[k]? with
  | some r => if r.kind = 2 ∧ r.day ≤ d ∧ cur l k r.num = some i then [r.by_] else []
  | none => [])
theorem marksK_succ {l : List WRec} {i k : Nat} {d : Int} {r : WRec} (hr : l[k]? = some r) : marksK l i d (k + 1) = marksK l i d k ++ if r.kind = 2 ∧ r.day ≤ d ∧ cur l k r.num = some i then [r.by_] else [] := by simp only [marksK, hr]
theorem marksK_len {l : List WRec} {i : Nat} {d : Int} : ∀ {k : Nat}, (marksK l i d k).length ≤ k
 | 0 => Nat.le_refl _
 | k + 1 => by
  have := marksK_len (l := l) (i := i) (d := d) (k := k)
  unfold marksK
  rw [List.length_append]
  split
  ·split
   ·simp only [List.length_cons, List.length_nil]; omega
   ·simp only [List.length_nil]; omega
  ·simp only [List.length_nil]; omega
def gotN (l : List WRec) (n : Int) : Option Nat := l.findIdx? (gotR n)
theorem gotN_some {l : List WRec} {n : Int} {j : Nat} (h : gotN l n = some j) : ∃ r, l[j]? = some r ∧ gotR n r = true := by
 unfold gotN at h
 rw [List.findIdx?_eq_some_iff_getElem] at h
 obtain ⟨hj, hg, _⟩ := h
 exact ⟨_, List.getElem?_eq_getElem hj, hg⟩
theorem gotN_of {l : List WRec} {n : Int} {j : Nat} {r : WRec} (h : okTo l l.length = true) (hr : l[j]? = some r) (hg : gotR n r = true) : gotN l n = some j := by
 cases hn : gotN l n with
 | none =>
  unfold gotN at hn
  rw [List.findIdx?_eq_none_iff] at hn
  rw [hn r (List.mem_of_getElem? hr)] at hg; cases hg
 | some j' =>
  obtain ⟨r', h1, h2⟩ := gotN_some hn
  rw [got_uni h (List.getElem?_eq_some_iff.1 h1).1 (List.getElem?_eq_some_iff.1 hr).1 h1 hr h2 hg]
theorem gotN_none {l : List WRec} {n : Int} (h : gotN l n = none) {k : Nat} : cur l k n = none := by
 unfold gotN at h
 rw [List.findIdx?_eq_none_iff] at h
 exact cur_not fun j r _ hr => h r (List.mem_of_getElem? hr)
theorem got_born {l : List WRec} {j : Nat} {r : WRec} {n : Int} (h : okTo l l.length = true) (hr : l[j]? = some r) (hg : gotR n r = true) : ∃ i, cur l (j + 1) n = some i := by
 rw [cur_got hr hg]
 split
 ·exact ⟨j, rfl⟩
 ·rename_i hk
  have hj := (List.getElem?_eq_some_iff.1 hr).1
  have ho := ok_rec h hj hr
  have hu := (ho.again (by rcases gotR_iff.1 hg with h | h; exact absurd h.1 hk; exact h.1)).2.2.2.2
  rw [used_cur (ok_less h (by omega)) ho.num.1] at hu
  exact Option.isSome_iff_exists.1 hu
theorem got_back {l : List WRec} {j : Nat} {r : WRec} {n : Int} {i : Nat} (h : okTo l l.length = true) (hr : l[j]? = some r) (hg : gotR n r = true) (hk : r.kind = 3) (hc : cur l (j + 1) n = some i) :
  ∃ (j' : Nat) (r' : WRec), gotN l r.num = some j' ∧ j' < j ∧ l[j']? = some r' ∧ gotR r.num r' = true ∧ cur l (j' + 1) r.num = some i := by
 have hj := (List.getElem?_eq_some_iff.1 hr).1
 rw [cur_got hr hg, if_neg (by omega)] at hc
 obtain ⟨j', r', h1, h2, h3⟩ := cur_has hc
 have := cur_first h (Nat.le_of_lt hj) hc (by omega) h2 h3
 exact ⟨j', r', gotN_of h h2 h3, h1, h2, h3, this.2⟩
theorem got_end {l : List WRec} {j : Nat} {r : WRec} {n : Int} {i : Nat} (hr : l[j]? = some r) (hg : gotR n r = true) (hk : ¬ r.kind = 3) (hc : cur l (j + 1) n = some i) : i = j := by
 rw [cur_got hr hg, if_pos (by rcases gotR_iff.1 hg with h | h; exact h.1; exact absurd h.1 hk)] at hc
 cases hc; rfl
theorem bearN_none {l : List WRec} {n d : Int} (h : gotN l n = none) : bearN l n d = none := gotN_none h
theorem bearN_late {l : List WRec} {n d : Int} {j : Nat} {r : WRec} (h : okTo l l.length = true) (hj : gotN l n = some j) (hr : l[j]? = some r) (hd : d < r.day) : bearN l n d = none := by
 obtain ⟨r', h1, h2⟩ := gotN_some hj
 rw [hr] at h1; cases h1
 cases hc : bearN l n d with
 | none => rfl
 | some i =>
  have hjl := (List.getElem?_eq_some_iff.1 hr).1
  have := (cur_first h upTo_le hc hjl hr h2).1
  have := (upTo_iff (d := d) h (Nat.le_refl _) hjl hr).2 this
  omega
def goneD (n d : Int) (r : WRec) : Bool := r.num == n && (decide (r.day ≤ d) && (r.kind == 3 || r.kind == 4))
theorem gone_any {l : List WRec} {n d : Int} (h : okTo l l.length = true) : l.any (goneD n d) = (l.take (upTo l d l.length)).any (goneR n) := by
 rw [Bool.eq_iff_iff, List.any_eq_true, List.any_eq_true]
 constructor
 ·rintro ⟨r, hr, hg⟩
  obtain ⟨j, hj, rfl⟩ := List.getElem_of_mem hr
  unfold goneD at hg
  simp only [Bool.and_eq_true, decide_eq_true_eq] at hg
  have := (upTo_iff (d := d) h (Nat.le_refl _) hj (List.getElem?_eq_getElem hj)).1 hg.2.1
  refine ⟨l[j], List.mem_of_getElem? (i := j) ?_, by unfold goneR; rw [hg.1, hg.2.2]; rfl⟩
  rw [List.getElem?_take, if_pos this]; exact List.getElem?_eq_getElem hj
 ·rintro ⟨r, hr, hg⟩
  obtain ⟨j, hj, e⟩ := List.getElem_of_mem hr
  rw [List.length_take] at hj
  rw [List.getElem_take] at e
  have := (upTo_iff (d := d) h (Nat.le_refl _) (show j < l.length by omega) (List.getElem?_eq_getElem (by omega))).2 (by omega)
  refine ⟨r, by rw [← e]; exact List.getElem_mem _, ?_⟩
  unfold goneD goneR at *
  simp only [Bool.and_eq_true, decide_eq_true_eq] at hg ⊢
  exact ⟨hg.1, by rw [← e]; exact this, hg.2⟩
theorem bearN_gone {l : List WRec} {n d : Int} {j : Nat} {r : WRec} (h : okTo l l.length = true) (hj : gotN l n = some j) (hr : l[j]? = some r) (hd : r.day ≤ d) : bearN l n d = if l.any (goneD n d) then none else cur l (j + 1) n := by
 obtain ⟨r', h1, h2⟩ := gotN_some hj
 rw [hr] at h1; cases h1
 have hjl := (List.getElem?_eq_some_iff.1 hr).1
 have hlt := (upTo_iff (d := d) h (Nat.le_refl _) hjl hr).1 hd
 rw [gone_any h]
 exact cur_from h hjl hr h2 _ hlt upTo_le
def Brn (l : List WRec) (i : Nat) (d : Int) (k : Nat) (b : Int) : Prop := ∀ n, 1 ≤ n → (cur l (min k (upTo l d l.length)) n = some i ↔ b = n)
structure Fol (l : List WRec) (i : Nat) (d : Int) (k : Nat) (now b : Int) (m : List ByteArray) : Prop where
 le : k ≤ l.length
 pos : 1 ≤ now
 is : cur l k now = some i
 brn : Brn l i d k b
 marks : m = marksK l i d k
section
variable {l : List WRec} {i k : Nat} {d : Int} {now b : Int} {m : List ByteArray} {r : WRec}
end
end Go.Ow

namespace Go.Ow
open Go Go.RowKit Go.Pm
def fIxR (p : WRec → Bool) (l : List WRec) : Int := match l.findIdx? p with | some i => (i : Int) | none => -1
theorem fIxR_hit {p : WRec → Bool} {l : List WRec} {k : Nat} {x : WRec} (hno : ∀ (i : Nat) (y : WRec), i < k → l[i]? = some y → p y = false) (hx : l[k]? = some x) (hp : p x = true) : fIxR p l = k := by
 unfold fIxR
 have hk := (List.getElem?_eq_some_iff.1 hx).1
 have he := (List.getElem?_eq_some_iff.1 hx).2
 have : l.findIdx? p = some k := by
  rw [List.findIdx?_eq_some_iff_getElem]
  refine ⟨hk, by rw [he]; exact hp, fun j hj => ?_⟩
  have := hno j _ hj (List.getElem?_eq_getElem (by omega))
  rw [this]; decide
 rw [this]
theorem fIxR_none {p : WRec → Bool} {l : List WRec} (hno : ∀ (i : Nat) (y : WRec), i < l.length → l[i]? = some y → p y = false) : fIxR p l = -1 := by
 unfold fIxR
 have : l.findIdx? p = none := by
  rw [List.findIdx?_eq_none_iff]
  intro x hx
  obtain ⟨i, hi⟩ := List.mem_iff_getElem?.1 hx
  exact hno i x (List.getElem?_eq_some_iff.1 hi).1 hi
 rw [this]
noncomputable def wrP (caps : List TV) (p : WRec → Bool) : List TV → Option TV
 | .agg [.int .i64 a, .int .i64 b, .int .i64 c, .str s, .int .i64 d] :: cs => @ite _ (cs = caps) (Classical.propDecidable _) (some (.bool (p ⟨a, b, c, s, d⟩))) none
 | _ => none
theorem wrP_ok {P : Program} {f : FuncId} {caps : List TV} {p : WRec → Bool} (h : ∀ x, PCalls P f (.agg (recT x) :: caps) (.bool (p x))) : ∀ al r, wrP caps p al = some r → PCalls P f al r := by
 intro al r e
 unfold wrP at e
 split at e
 ·split at e
  ·rename_i hc; subst hc; cases e; exact h ⟨_, _, _, _, _⟩
  ·cases e
 ·cases e
@[go_sem] theorem wrP_eq (caps cs : List TV) (p : WRec → Bool) (a b c d : Int) (s : ByteArray) : wrP caps p (.agg [.int .i64 a, .int .i64 b, .int .i64 c, .str s, .int .i64 d] :: cs) = @ite _ (cs = caps) (Classical.propDecidable _) (some (.bool (p ⟨a, b, c, s, d⟩))) none := rfl
@[go_sem] theorem allT : ∀ cs : List TV, allO (List.map PV.toT (List.map PV.t cs)) = some cs
 | [] => rfl
 | c :: cs => by simp only [List.map_cons, allO, allT cs, PV.toT, Option.map_some]
theorem gotN_ix (l : List WRec) (n : Int) : fIxR (gotR n) l = match gotN l n with | some i => (i : Int) | none => -1 := rfl
end Go.Ow
namespace Go.Proofs.YtdkboibnokipaaaDoor
open Go.RowKit Go.Pm Go.Ow
theorem wFirst_c {fid : FuncId} {caps : List TV} {p : WRec → Bool} {l : List WRec} {s : TV} (hl : bkT s l) (hll : l.length ≤ 1000000) (hc : ∀ x, PCalls Tryd.prog fid (.agg (recT x) :: caps) (.bool (p x))) : PCalls Tryd.prog 95 [.fn fid [] caps, s] (.int .i64 (fIxR p l)) := by
 refine pcalls_by Tryd.mixes (Spec.one_ok (wrP_ok hc) noSpec_ok) (fn := Tryd.f95) Tryd.func95 rfl (by kernel_rfl) (by show 2 ≤ _; decide) ?_
 rcases hl with ⟨rfl, rfl⟩ | ⟨f, rfl⟩
 ·simp +decide -implicitDefEqProofs (maxSteps := 4000000) only [go_sem, Tryd.f95]
  refine pwpC_loopU (A := Unit) [0, 7, 8] (fun _ => [(9, .t (.int .i64 0))]) (fun _ => []) (fun _ => 0) () (by decide) (fun _ => by rfl) ?_ fun Q1 hQ1 _ I1 hI1 => ?_
  ·simp +decide -implicitDefEqProofs (maxSteps := 4000000) only [go_sem]
  ·simp +decide -implicitDefEqProofs (maxSteps := 4000000) only [go_sem]
   refine hQ1 _ _ ?_
   simp +decide -implicitDefEqProofs (maxSteps := 4000000) only [go_sem]
   first | done | rfl
 ·simp +decide -implicitDefEqProofs (maxSteps := 4000000) only [go_sem, Tryd.f95]
  have hlen := recL_len l
  refine pwpC_loopU (A := { k : Nat // k ≤ l.length ∧ ∀ (i : Nat) (y : WRec), i < k → l[i]? = some y → p y = false }) [0, 7, 8] (fun k => [(9, .t (.int .i64 k.1))]) (fun _ => []) (fun k => l.length - k.1) ⟨0, by omega, fun i y h => by omega⟩ (by decide) (fun _ => by rfl) ?_ fun Q1 hQ1 ⟨k, hk, hno⟩ I1 hI1 => ?_
  ·simp +decide -implicitDefEqProofs (maxSteps := 4000000) only [go_sem]
  ·by_cases hlt : (k : Int) < l.length
   ·obtain ⟨x, hx⟩ : ∃ r, l[k]? = some r := ⟨_, List.getElem?_eq_getElem (by omega)⟩
    have hd := recL_at hx
    have hc1 : IntKind.i64.wrap (k + 1) = ((k + 1 : Nat) : Int) := by rw [wrap_in (by omega) (by omega)]; omega
    have hle : k * 5 + 5 ≤ (recL l).length := by rw [hlen]; omega
    cases hb : p x with
    | true =>
     have e := fIxR_hit hno hx hb
     obtain ⟨a, b, c, d, g⟩ := x
     simp +decide -implicitDefEqProofs (maxSteps := 4000000) only [go_sem, hlt, hd, hb, hle, recT]
     refine hQ1 _ _ ?_
     simp +decide -implicitDefEqProofs (maxSteps := 4000000) only [go_sem, e]
    | false =>
     have hno' : ∀ (i : Nat) (y : WRec), i < k + 1 → l[i]? = some y → p y = false := fun i y hi hy => by
      by_cases e : i = k
      ·subst e; rw [hx] at hy; cases hy; exact hb
      ·exact hno i y (by omega) hy
     obtain ⟨a, b, c, d, g⟩ := x
     simp +decide -implicitDefEqProofs (maxSteps := 4000000) only [go_sem, hlt, hd, hb, hle, recT]
     refine hI1 _ ⟨k + 1, by omega, hno'⟩ (by simp only; omega) ?_
     simp +decide -implicitDefEqProofs (maxSteps := 4000000) only [go_sem, hc1]
   ·have hke : k = l.length := by omega
    subst hke
    have e : fIxR p l = -1 := fIxR_none hno
    simp +decide -implicitDefEqProofs (maxSteps := 4000000) only [go_sem, hlt]
    refine hQ1 _ _ ?_
    simp +decide -implicitDefEqProofs (maxSteps := 4000000) only [go_sem, e]
theorem wGot1_c (n : Int) (r : WRec) : PCalls Tryd.prog 124 [.agg (recT r), .cptr [.int .i64 n]] (.bool (gotR n r)) := by
 refine pcalls_by Tryd.mixes (Spec.gdt_ok noSpec_ok) (fn := Tryd.f124) Tryd.func124 rfl (by kernel_rfl) (by show 2 ≤ _; decide) ?_
 unfold gotR
 cases c1 : (r.kind == 1) with
 | true =>
  cases c2 : (r.num == n) with
  | true => simp +decide -implicitDefEqProofs (maxSteps := 4000000) only [go_sem, Tryd.f124, recT, c1, c2]
  | false =>
   cases c3 : (r.kind == 3) with
   | true => simp +decide -implicitDefEqProofs (maxSteps := 4000000) only [go_sem, Tryd.f124, recT, c1, c2, c3]
   | false => simp +decide -implicitDefEqProofs (maxSteps := 4000000) only [go_sem, Tryd.f124, recT, c1, c2, c3]
 | false =>
  cases c3 : (r.kind == 3) with
  | true => simp +decide -implicitDefEqProofs (maxSteps := 4000000) only [go_sem, Tryd.f124, recT, c1, c3]
  | false => simp +decide -implicitDefEqProofs (maxSteps := 4000000) only [go_sem, Tryd.f124, recT, c1, c3]
theorem wGot_c {s : TV} {l : List WRec} (hs : bkT s l) (hl : l.length ≤ 1000000) (n : Int) : PCalls Tryd.prog 94 [s, .int .i64 n] (.int .i64 (fIxR (gotR n) l)) := by
 refine pcalls_by Tryd.mixes (Spec.frz_ok (Spec.one_ok (oneP_ok (wFirst_c hs hl (wGot1_c n))) noSpec_ok)) (fn := Tryd.f94) Tryd.func94 rfl (by kernel_rfl) (by show 2 ≤ _; decide) ?_
 simp +decide -implicitDefEqProofs (maxSteps := 4000000) only [go_sem, Tryd.f94, freezeW, freezeO, frzC, thawP, thawC]
theorem wBearer1_c (n d : Int) (r : WRec) : PCalls Tryd.prog 96 [.agg (recT r), .cptr [.int .i64 n], .cptr [.int .i64 d]] (.bool (goneD n d r)) := by
 refine pcalls_by Tryd.mixes (Spec.gdt_ok noSpec_ok) (fn := Tryd.f96) Tryd.func96 rfl (by kernel_rfl) (by show 3 ≤ _; decide) ?_
 unfold goneD
 cases c1 : (r.num == n) with
 | false => simp +decide -implicitDefEqProofs (maxSteps := 4000000) only [go_sem, Tryd.f96, recT, c1]
 | true =>
  by_cases c2 : r.day ≤ d
  ·cases c3 : (r.kind == 3) with
   | true => simp +decide -implicitDefEqProofs (maxSteps := 4000000) only [go_sem, Tryd.f96, recT, c1, c2, c3]
   | false => simp +decide -implicitDefEqProofs (maxSteps := 4000000) only [go_sem, Tryd.f96, recT, c1, c2, c3]
  ·simp +decide -implicitDefEqProofs (maxSteps := 4000000) only [go_sem, Tryd.f96, recT, c1, c2]
end Go.Proofs.YtdkboibnokipaaaDoor

namespace Go.Ow
open Go Go.RowKit Go.Pm
open Classical in
noncomputable def byP (s0 : TV) (g : Int → Option TV) : List TV → Option TV
 | [s, .int .i64 n] => if s = s0 then g n else none
 | _ => none
open Classical in
@[go_sem] theorem byP_eq (s0 s : TV) (g : Int → Option TV) (n : Int) : byP s0 g [s, .int .i64 n] = if s = s0 then g n else none := rfl
theorem byP_ok {P : Program} {f : FuncId} {s0 : TV} {g : Int → Option TV} (h : ∀ n v, g n = some v → PCalls P f [s0, .int .i64 n] v) : ∀ a r, byP s0 g a = some r → PCalls P f a r := by
 intro a r e
 unfold byP at e
 split at e
 ·split at e
  ·rename_i hc; subst hc; exact h _ _ e
  ·cases e
 ·cases e
def optI : Option Nat → Int
 | some i => i
 | none => -1
end Go.Ow
namespace Go.Proofs.YtdkboibnokipaaaDoor
open Go.RowKit Go.Pm Go.Ow
theorem wInstrument_c {l : List WRec} (f : Bool) (hl : l.length ≤ 40) (ho : okTo l l.length = true) {n : Int} {j0 i : Nat} (hj0 : gotN l n = some j0) (hi : cur l (j0 + 1) n = some i) : PCalls Tryd.prog 97 [.sl (recL l) l.length f, .int .i64 n] (.int .i64 i) := by
 refine pcalls_by Tryd.mixes (Spec.one_ok (byP_ok (s0 := .sl (recL l) l.length f) (g := fun n => some (.int .i64 (fIxR (gotR n) l))) fun n v e => by cases e; exact wGot_c (.inr ⟨f, rfl⟩) (by omega) n) noSpec_ok) (fn := Tryd.f97) Tryd.func97 rfl (by kernel_rfl) (by show 2 ≤ _; decide) ?_
 obtain ⟨r0, hr0, hg0⟩ := gotN_some hj0
 have e0 : fIxR (gotR n) l = j0 := by rw [gotN_ix, hj0]
 simp +decide -implicitDefEqProofs (maxSteps := 4000000) only [go_sem, Tryd.f97, e0]
 refine pwpC_loopU (A := { j : Nat // ∃ (m : Int) (r : WRec), l[j]? = some r ∧ gotR m r = true ∧ cur l (j + 1) m = some i }) [0] (fun j => [(5, .t (.int .i64 j.1))]) (fun _ => []) (fun j => j.1) ⟨j0, n, r0, hr0, hg0, hi⟩ (by decide) (fun _ => by rfl) ?_ fun Q1 hQ1 ⟨j, m, r, hr, hg, hc⟩ I1 hI1 => ?_
 ·simp +decide -implicitDefEqProofs (maxSteps := 4000000) only [go_sem]
 ·have hj := (List.getElem?_eq_some_iff.1 hr).1
  have hlt : (j : Int) < l.length := by omega
  have d1 := recL_at hr
  cases c1 : (r.kind == 3) with
  | true =>
   obtain ⟨j', r', h1, h2, h3, h4, h5⟩ := got_back ho hr hg (by simpa using c1) hc
   have e1 : fIxR (gotR r.num) l = j' := by rw [gotN_ix, h1]
   simp +decide -implicitDefEqProofs (maxSteps := 4000000) only [go_sem, hlt, d1, recT, c1, e1]
   refine hI1 _ ⟨j', _, r', h3, h4, h5⟩ (by simp only; omega) ?_
   simp +decide -implicitDefEqProofs (maxSteps := 4000000) only [go_sem]
  | false =>
   have e1 := got_end hr hg (by simpa using c1) hc
   subst e1
   simp +decide -implicitDefEqProofs (maxSteps := 4000000) only [go_sem, hlt, d1, recT, c1]
   refine hQ1 _ _ ?_
   simp +decide -implicitDefEqProofs (maxSteps := 4000000) only [go_sem]
noncomputable def spWb1 (l : List WRec) (s : TV) (n d : Int) (i : Nat) : Pm.Spec := (((noSpec.one 95 (oneP [.fn 96 [] [.cptr [.int .i64 n], .cptr [.int .i64 d]], s] (.int .i64 (fIxR (goneD n d) l)))).one 94 (oneP [s, .int .i64 n] (.int .i64 (fIxR (gotR n) l)))).one 97 (oneP [s, .int .i64 n] (.int .i64 i))).gdt.frz
noncomputable def spWb0 (l : List WRec) (s : TV) (n d : Int) : Pm.Spec := ((noSpec.one 95 (oneP [.fn 96 [] [.cptr [.int .i64 n], .cptr [.int .i64 d]], s] (.int .i64 (fIxR (goneD n d) l)))).one 94 (oneP [s, .int .i64 n] (.int .i64 (fIxR (gotR n) l)))).gdt.frz
theorem spWb0_ok {l : List WRec} {s : TV} (hs : bkT s l) (hl : l.length ≤ 40) (n d : Int) : SpecOk Tryd.prog (spWb0 l s n d) := Spec.frz_ok (Spec.gdt_ok (Spec.one_ok (oneP_ok (wGot_c hs (by omega) n)) (Spec.one_ok (oneP_ok (wFirst_c hs (by omega) (wBearer1_c n d))) noSpec_ok)))
theorem spWb1_ok {l : List WRec} {s : TV} (hs : bkT s l) (hl : l.length ≤ 40) (n d : Int) {i : Nat} (hi : PCalls Tryd.prog 97 [s, .int .i64 n] (.int .i64 i)) : SpecOk Tryd.prog (spWb1 l s n d i) := Spec.frz_ok (Spec.gdt_ok (Spec.one_ok (oneP_ok hi) (Spec.one_ok (oneP_ok (wGot_c hs (by omega) n)) (Spec.one_ok (oneP_ok (wFirst_c hs (by omega) (wBearer1_c n d))) noSpec_ok))))
theorem fIxR_any (p : WRec → Bool) (l : List WRec) : decide (fIxR p l ≥ 0) = l.any p := by
 unfold fIxR
 cases h : l.findIdx? p with
 | none =>
  rw [List.findIdx?_eq_none_iff] at h
  have : l.any p = false := by
   rw [List.any_eq_false]; intro x hx; rw [h x hx]; decide
  rw [this]; rfl
 | some i =>
  obtain ⟨hi, h1, _⟩ := List.findIdx?_eq_some_iff_getElem.1 h
  have : l.any p = true := List.any_eq_true.2 ⟨l[i], List.getElem_mem _, h1⟩
  rw [this]; simp
theorem wBearer_c {s : TV} {l : List WRec} (hs : bkT s l) (hb : bookB l = true) (n d : Int) : PCalls Tryd.prog 70 [s, .int .i64 n, .int .i64 d] (.int .i64 (optI (bearN l n d))) := by
 have hb' := hb
 unfold bookB at hb'
 simp only [Bool.and_eq_true, decide_eq_true_eq] at hb'
 obtain ⟨hl, ho⟩ := hb'
 cases hj : gotN l n with
 | none =>
  refine pcalls_by Tryd.mixes (spWb0_ok hs hl n d) (fn := Tryd.f70) Tryd.func70 rfl (by kernel_rfl) (by show 3 ≤ _; decide) ?_
  have e0 : fIxR (gotR n) l = -1 := by rw [gotN_ix, hj]
  have e1 : bearN l n d = none := bearN_none hj
  simp +decide -implicitDefEqProofs (maxSteps := 4000000) only [go_sem, Tryd.f70, spWb0, e0, e1, optI]
 | some j =>
  obtain ⟨r, hr, hg⟩ := gotN_some hj
  have hjl := (List.getElem?_eq_some_iff.1 hr).1
  obtain ⟨f, rfl⟩ : ∃ f, s = .sl (recL l) l.length f := by
   rcases hs with ⟨rfl, rfl⟩ | ⟨f, rfl⟩
   ·simp at hjl
   ·exact ⟨f, rfl⟩
  have e0 : fIxR (gotR n) l = j := by rw [gotN_ix, hj]
  have d1 := recL_at hr
  have hlt : (j : Int) < l.length := by omega
  have h0 : ¬ (j : Int) < 0 := by omega
  by_cases hd : r.day > d
  ·have e1 : bearN l n d = none := bearN_late ho hj hr hd
   refine pcalls_by Tryd.mixes (spWb0_ok hs hl n d) (fn := Tryd.f70) Tryd.func70 rfl (by kernel_rfl) (by show 3 ≤ _; decide) ?_
   simp +decide -implicitDefEqProofs (maxSteps := 4000000) only [go_sem, Tryd.f70, spWb0, e0, e1, optI, d1, recT, hlt, h0, hd]
  ·have e1 := bearN_gone ho hj hr (show r.day ≤ d by omega)
   obtain ⟨i, hi⟩ := got_born ho hr hg
   have ha := fIxR_any (goneD n d) l
   cases hany : l.any (goneD n d) with
   | true =>
    rw [hany, if_pos rfl] at e1
    rw [hany] at ha
    refine pcalls_by Tryd.mixes (spWb0_ok hs hl n d) (fn := Tryd.f70) Tryd.func70 rfl (by kernel_rfl) (by show 3 ≤ _; decide) ?_
    simp +decide -implicitDefEqProofs (maxSteps := 4000000) only [go_sem, Tryd.f70, spWb0, e0, e1, optI, d1, recT, hlt, h0, hd, freezeW, freezeO, frzC, thawP, thawC, ha]
   | false =>
    rw [hany, if_neg (by decide), hi] at e1
    rw [hany] at ha
    refine pcalls_by Tryd.mixes (spWb1_ok hs hl n d (wInstrument_c f hl ho hj hi)) (fn := Tryd.f70) Tryd.func70 rfl (by kernel_rfl) (by show 3 ≤ _; decide) ?_
    simp +decide -implicitDefEqProofs (maxSteps := 4000000) only [go_sem, Tryd.f70, spWb1, e0, e1, optI, d1, recT, hlt, h0, hd, freezeW, freezeO, frzC, thawP, thawC, ha]
end Go.Proofs.YtdkboibnokipaaaDoor

namespace Go.Ow
open Go Go.RowKit Go.Pm
def traceP (l : List WRec) (n d : Int) : Int × Int := if bookB l then (if inW n 1 99999 && inW d 0 100000 then (match bearN l n d with | some i => ((i : Int), 0) | none => (0, 4)) else (0, 93)) else (0, 92)
def txT (l : List ByteArray) : TV := if l.length = 0 then .nilSl else .sl (l.map .str) l.length false
end Go.Ow
namespace Go.Proofs.YtdkboibnokipaaaDoor
open Go.RowKit Go.Pm Go.Ow
theorem bookB_iff {l : List WRec} : bookB l = true ↔ l.length ≤ 40 ∧ okTo l l.length = true := by unfold bookB; simp
theorem wTrace_c {s : TV} {l : List WRec} (hs : bkT s l) (hL : l.length ≤ 140737488355328) (n d : Int) : PCalls Tryd.prog 26 [s, .int .i64 n, .int .i64 d] (.tup [.int .i64 (traceP l n d).1, .int .i64 (traceP l n d).2]) := by
 cases hb : bookB l with
 | false =>
  have e : traceP l n d = (0, 92) := by unfold traceP; rw [hb]; rfl
  rw [e]
  refine pcalls_by Tryd.mixes (Spec.one_ok (oneP_ok (wCheckBook_c hs hL)) noSpec_ok) (fn := Tryd.f26) Tryd.func26 rfl (by kernel_rfl) (by show 3 ≤ _; decide) ?_
  simp +decide -implicitDefEqProofs (maxSteps := 4000000) only [go_sem, Tryd.f26, hb]
 | true =>
  have hl := (bookB_iff.1 hb).1
  have hB : ∀ n d, PCalls Tryd.prog 70 [s, .int .i64 n, .int .i64 d] (.int .i64 (optI (bearN l n d))) := fun n d => wBearer_c hs hb n d
  refine pcalls_by Tryd.mixes (Spec.gdt_ok (Spec.one_ok (oneP_ok (hB n d)) (Spec.one_ok wkIsDay_ok (Spec.one_ok wkIsNumber_ok (Spec.one_ok (oneP_ok (wCheckBook_c hs hL)) noSpec_ok))))) (fn := Tryd.f26) Tryd.func26 rfl (by kernel_rfl) (by show 3 ≤ _; decide) ?_
  cases c1 : inW n 1 99999 with
  | false =>
   have e : traceP l n d = (0, 93) := by unfold traceP; rw [hb, c1]; rfl
   rw [e]
   simp +decide -implicitDefEqProofs (maxSteps := 4000000) only [go_sem, Tryd.f26, hb, c1]
  | true =>
   cases c2 : inW d 0 100000 with
   | false =>
    have e : traceP l n d = (0, 93) := by unfold traceP; rw [hb, c1, c2]; rfl
    rw [e]
    simp +decide -implicitDefEqProofs (maxSteps := 4000000) only [go_sem, Tryd.f26, hb, c1, c2]
   | true =>
    cases c3 : bearN l n d with
    | none =>
     have e : traceP l n d = (0, 4) := by unfold traceP; rw [hb, c1, c2, c3]; rfl
     rw [e]
     simp +decide -implicitDefEqProofs (maxSteps := 4000000) only [go_sem, Tryd.f26, hb, c1, c2, c3, optI]
    | some i =>
     have e : traceP l n d = ((i : Int), 0) := by unfold traceP; rw [hb, c1, c2, c3]; rfl
     have h0 : ¬ (i : Int) < 0 := by omega
     rw [e]
     simp +decide -implicitDefEqProofs (maxSteps := 4000000) only [go_sem, Tryd.f26, hb, c1, c2, c3, optI, h0]
theorem wMarks_c {l : List WRec} (f : Bool) (hb : bookB l = true) (i : Nat) (d : Int) : PCalls Tryd.prog 75 [.sl (recL l) l.length f, .int .i64 i, .int .i64 d] (txT (marksK l i d l.length)) := by
 obtain ⟨hl, ho⟩ := bookB_iff.1 hb
 have hI : ∀ n v, ((match gotN l n with | some j => (cur l (j + 1) n).map fun (i : Nat) => TV.int .i64 (i : Int) | none => none) : Option TV) = some v → PCalls Tryd.prog 97 [.sl (recL l) l.length f, .int .i64 n] v := by
  intro n v e
  split at e
  ·rename_i j hj
   obtain ⟨i, hi, he⟩ := Option.map_eq_some_iff.1 e
   subst he
   exact wInstrument_c f hl ho hj hi
  ·cases e
 refine pcalls_by Tryd.mixes (Spec.gdt_ok (Spec.one_ok (byP_ok hI) noSpec_ok)) (fn := Tryd.f75) Tryd.func75 rfl (by kernel_rfl) (by show 3 ≤ _; decide) ?_
 simp +decide -implicitDefEqProofs (maxSteps := 4000000) only [go_sem, Tryd.f75]
 refine pwpC_loopU (A := { k : Nat // k ≤ l.length }) [0, 1, 2, 10, 11] (fun k => [(12, .t (.int .i64 k.1)), (7, .own ((marksK l i d k.1).map .str) (marksK l i d k.1).length 0)]) (fun k => [(0, .tok (marksK l i d k.1).length 9)]) (fun k => l.length - k.1) ⟨0, by omega⟩ (by decide) (fun _ => by rfl) ?_ fun Q1 hQ1 ⟨k, hk⟩ I1 hI1 => ?_
 ·simp +decide -implicitDefEqProofs (maxSteps := 4000000) only [go_sem, marksK, List.length_nil]
  first | done | exact ⟨rfl, rfl⟩ | rfl | trace_state
 ·by_cases hlt : (k : Int) < l.length
  ·obtain ⟨r, hr⟩ : ∃ r, l[k]? = some r := ⟨_, List.getElem?_eq_getElem (by omega)⟩
   have d1 := recL_at hr
   have hle : k * 5 + 5 ≤ (recL l).length := by rw [recL_len]; omega
   have hk1 := Go.Pm.wS (k := k) (by omega)
   have hms := marksK_succ (i := i) (d := d) hr
   have hml := marksK_len (l := l) (i := i) (d := d) (k := k)
   have hR := ok_rec ho (by omega) hr
   have skip : ¬ (r.kind = 2 ∧ r.day ≤ d ∧ cur l k r.num = some i) → marksK l i d (k + 1) = marksK l i d k := fun h => by rw [hms, if_neg h, List.append_nil]
   cases c1 : (r.kind == 2) with
   | false =>
    have e := skip (fun h => by rw [h.1] at c1; cases c1)
    simp +decide -implicitDefEqProofs (maxSteps := 4000000) only [go_sem, hlt, d1, hle, recT, c1]
    refine hI1 _ ⟨k + 1, by omega⟩ (by simp only; omega) ?_
    simp +decide -implicitDefEqProofs (maxSteps := 4000000) only [go_sem, hk1, e]
   | true =>
    by_cases c2 : r.day ≤ d
    ·have hu := (hR.mend (by simpa using c1)).2.2
     rw [used_cur (ok_less ho (by omega)) hR.num.1] at hu
     obtain ⟨x, hx⟩ := Option.isSome_iff_exists.1 hu
     obtain ⟨j', r', g1, g2, g3⟩ := cur_has hx
     have hf := cur_first ho (by omega) hx (by omega) g2 g3
     have hgn := gotN_of ho g2 g3
     cases c3 : ((x : Int) == i) with
     | false =>
      have hxi : x ≠ i := fun e => by rw [e] at c3; simp at c3
      have e := skip (fun h => by rw [hx] at h; exact hxi (Option.some.inj h.2.2))
      simp +decide -implicitDefEqProofs (maxSteps := 4000000) only [go_sem, hlt, d1, hle, recT, c1, c2, hgn, hf.2, c3]
      refine hI1 _ ⟨k + 1, by omega⟩ (by simp only; omega) ?_
      simp +decide -implicitDefEqProofs (maxSteps := 4000000) only [go_sem, hk1, e]
     | true =>
      have hxi : x = i := by have := beq_iff_eq.1 c3; omega
      have e : marksK l i d (k + 1) = marksK l i d k ++ [r.by_] := by rw [hms, if_pos ⟨by simpa using c1, c2, by rw [hx, hxi]⟩]
      have e1 : (marksK l i d (k + 1)).map TV.str = (marksK l i d k).map TV.str ++ [.str r.by_] := by rw [e, List.map_append]; rfl
      have e2 : (marksK l i d (k + 1)).length = (marksK l i d k).length + 1 := by rw [e, List.length_append]; rfl
      have hr16 : ((marksK l i d k).length + 1) * 16 ≤ 140737488355328 := by omega
      have hlm : ((marksK l i d k).map TV.str).length = (marksK l i d k).length := List.length_map _
      simp +decide -implicitDefEqProofs (maxSteps := 4000000) only [go_sem, hlt, d1, hle, recT, c1, c2, hgn, hf.2, c3, hr16, hlm, Nat.mul_one]
      refine hI1 _ ⟨k + 1, by omega⟩ (by simp only; omega) ?_
      simp +decide -implicitDefEqProofs (maxSteps := 4000000) only [go_sem, hk1, e1, e2]
    ·have e := skip (fun h => c2 h.2.1)
     simp +decide -implicitDefEqProofs (maxSteps := 4000000) only [go_sem, hlt, d1, hle, recT, c1, c2]
     refine hI1 _ ⟨k + 1, by omega⟩ (by simp only; omega) ?_
     simp +decide -implicitDefEqProofs (maxSteps := 4000000) only [go_sem, hk1, e]
  ·have hke : k = l.length := by omega
   subst hke
   simp +decide -implicitDefEqProofs (maxSteps := 4000000) only [go_sem, hlt]
   refine hQ1 _ _ ?_
   simp +decide -implicitDefEqProofs (maxSteps := 4000000) only [go_sem, txT]
end Go.Proofs.YtdkboibnokipaaaDoor

namespace Go.Ow
open Go Go.RowKit Go.Pm
structure WCl where
 num : Int
 day : Int
 maker : ByteArray
 made : Int
 marks : List ByteArray
def clT (c : WCl) (s : TV) : TV := .agg [.int .i64 c.num, .int .i64 c.day, .str c.maker, .int .i64 c.made, s]
def headOk (c : WCl) : Bool := inW c.num 1 99999 && (inW c.day 0 100000 && (nameB c.maker && (inW c.made 0 100000 && decide (c.marks.length ≤ 40))))
def diffAt (a b : List ByteArray) (k : Nat) : Bool := decide (a.length ≤ k) || (decide (b.length ≤ k) || !decide (a.getD k ByteArray.empty = b.getD k ByteArray.empty))
def diffP (a b : List ByteArray) : Option Nat := (List.range (max a.length b.length)).find? (diffAt a b)
theorem diffP_some {a b : List ByteArray} {k : Nat} (hk : k < max a.length b.length) (hno : ∀ j, j < k → diffAt a b j = false) (h : diffAt a b k = true) : diffP a b = some k := by
 unfold diffP
 rw [List.find?_range_eq_some]
 exact ⟨h, List.mem_range.2 hk, fun j hj => by rw [hno j hj]; rfl⟩
theorem diffP_none {a b : List ByteArray} (hno : ∀ j, j < max a.length b.length → diffAt a b j = false) : diffP a b = none := by
 unfold diffP
 rw [List.find?_eq_none]
 intro j hj
 rw [hno j (List.mem_range.1 hj)]; decide
def judgeP (l : List WRec) (c : WCl) : (Int × Int) × Int :=
 if bookB l then
  if headOk c && c.marks.all nameB then
   match bearN l c.num c.day with
   | none => ((1, 0), 0)
   | some i => match l[i]? with
    | none => ((0, 0), 0)
    | some r => if ¬ r.by_ = c.maker then ((2, 0), 0) else if ¬ r.day = c.made then ((3, 0), 0) else
     match diffP (marksK l i c.day l.length) c.marks with
     | some k => ((4, (k : Int)), 0)
     | none => ((0, 0), 0)
  else ((0, 0), 93)
 else ((0, 0), 92)
def judT (x : (Int × Int) × Int) : TV := .tup [.agg [.int .i64 x.1.1, .int .i64 x.1.2], .int .i64 x.2]
theorem beqS (a b : ByteArray) : (a.toList == b.toList) = decide (a = b) := by
 rw [Bool.eq_iff_iff, beq_iff_eq, decide_eq_true_eq, ByteArray.toList_eq, ByteArray.toList_eq]
 constructor
 ·intro h
  cases a; cases b
  simp only [ByteArray.mk.injEq] at *
  exact Array.toList_inj.1 h
 ·rintro rfl; rfl
open Classical in
noncomputable def by2P (s0 : TV) (g : Int → Int → Option TV) : List TV → Option TV
 | [s, .int .i64 a, .int .i64 b] => if s = s0 then g a b else none
 | _ => none
open Classical in
@[go_sem] theorem by2P_eq (s0 s : TV) (g : Int → Int → Option TV) (a b : Int) : by2P s0 g [s, .int .i64 a, .int .i64 b] = if s = s0 then g a b else none := rfl
theorem by2P_ok {P : Program} {f : FuncId} {s0 : TV} {g : Int → Int → Option TV} (h : ∀ a b v, g a b = some v → PCalls P f [s0, .int .i64 a, .int .i64 b] v) : ∀ a r, by2P s0 g a = some r → PCalls P f a r := by
 intro a r e
 unfold by2P at e
 split at e
 ·split at e
  ·rename_i hc; subst hc; exact h _ _ _ e
  ·cases e
 ·cases e
end Go.Ow
namespace Go.Proofs.YtdkboibnokipaaaDoor
open Go.RowKit Go.Pm Go.Ow
noncomputable def spWk (l : List WRec) (s : TV) (g : Int → Int → Option TV) (h : Int → Int → Option TV) : Pm.Spec := (((((((spWa.one 68 wkIsNumber).one 69 wkIsDay).one 74 wkIsName).one 28 (oneP [s] (.int .i64 (if bookB l then 0 else 92)))).one 70 (by2P s g)).one 75 (by2P s h))).gdt
theorem spWk_ok {l : List WRec} {s : TV} {g h : Int → Int → Option TV} (hs : bkT s l) (hL : l.length ≤ 140737488355328) (hg : ∀ a b v, g a b = some v → PCalls Tryd.prog 70 [s, .int .i64 a, .int .i64 b] v) (hh : ∀ a b v, h a b = some v → PCalls Tryd.prog 75 [s, .int .i64 a, .int .i64 b] v) : SpecOk Tryd.prog (spWk l s g h) := Spec.gdt_ok (Spec.one_ok (by2P_ok hh) (Spec.one_ok (by2P_ok hg) (Spec.one_ok (oneP_ok (wCheckBook_c hs hL)) (Spec.one_ok wkIsName_ok (Spec.one_ok wkIsDay_ok (Spec.one_ok wkIsNumber_ok spWa_ok))))))
theorem wJudge_c {s m : TV} {l : List WRec} {c : WCl} (hs : bkT s l) (hL : l.length ≤ 140737488355328) (hm : txR m c.marks) (hM : c.marks.length ≤ 140737488355328) : PCalls Tryd.prog 30 [s, clT c m] (judT (judgeP l c)) := by
 obtain ⟨num, day, maker, made, marks⟩ := c
 simp only at hm hM
 rcases Bool.eq_false_or_eq_true (bookB l) with hb | hb
 rotate_left
 ·have e : judgeP l ⟨num, day, maker, made, marks⟩ = ((0, 0), 92) := by unfold judgeP; rw [hb]; rfl
  rw [e]
  refine pcalls_by Tryd.mixes (spWk_ok (g := fun _ _ => none) (h := fun _ _ => none) hs hL (fun _ _ _ h => by cases h) (fun _ _ _ h => by cases h)) (fn := Tryd.f30) Tryd.func30 rfl (by kernel_rfl) (by show 2 ≤ _; decide) ?_
  simp +decide -implicitDefEqProofs (maxSteps := 4000000) only [go_sem, Tryd.f30, hb, clT, judT, spWk]
 ·obtain ⟨hl, hok⟩ := bookB_iff.1 hb
  have hMk : ∀ a b v, (if 0 ≤ a ∧ l ≠ [] then some (txT (marksK l a.toNat b l.length)) else none) = some v → PCalls Tryd.prog 75 [s, .int .i64 a, .int .i64 b] v := by
   intro a b v h
   split at h
   ·rename_i hc
    cases h
    rcases hs with ⟨_, e⟩ | ⟨f, rfl⟩
    ·exact absurd e hc.2
    ·have := wMarks_c f hb a.toNat b
     rwa [Int.toNat_of_nonneg hc.1] at this
   ·cases h
  have hBr : ∀ a b v, some (TV.int .i64 (optI (bearN l a b))) = some v → PCalls Tryd.prog 70 [s, .int .i64 a, .int .i64 b] v := fun a b v h => by cases h; exact wBearer_c hs hb a b
  refine pcalls_by Tryd.mixes (spWk_ok hs hL hBr hMk) (fn := Tryd.f30) Tryd.func30 rfl (by kernel_rfl) (by show 2 ≤ _; decide) ?_
  rcases Bool.eq_false_or_eq_true (headOk ⟨num, day, maker, made, marks⟩) with ho | ho
  rotate_left
  ·have e : judgeP l ⟨num, day, maker, made, marks⟩ = ((0, 0), 93) := by unfold judgeP; rw [hb, ho]; rfl
   rw [e]
   have h5 : inW num 1 99999 = false ∨ (inW num 1 99999 = true ∧ (inW day 0 100000 = false ∨ (inW day 0 100000 = true ∧ (nameB maker = false ∨ (nameB maker = true ∧ (inW made 0 100000 = false ∨ (inW made 0 100000 = true ∧ ¬ (marks.length : Int) ≤ 40))))))) := by
    have ho : (inW num 1 99999 && (inW day 0 100000 && (nameB maker && (inW made 0 100000 && decide (marks.length ≤ 40))))) = false := ho
    by_cases h40 : marks.length ≤ 40
    ·rw [decide_eq_true h40] at ho
     revert ho
     cases inW num 1 99999 <;> cases inW day 0 100000 <;> cases nameB maker <;> cases inW made 0 100000 <;> simp
    ·have : ¬ (marks.length : Int) ≤ 40 := by omega
     cases inW num 1 99999 <;> cases inW day 0 100000 <;> cases nameB maker <;> cases inW made 0 100000 <;> simp [this]
   rcases hm with ⟨rfl, hn⟩ | ⟨gf, rfl⟩
   all_goals rcases h5 with c1 | ⟨c1, c2 | ⟨c2, c3 | ⟨c3, c4 | ⟨c4, c5⟩⟩⟩⟩
   all_goals first
    | (exfalso; rw [hn] at c5; simp at c5; done)
    | simp +decide -implicitDefEqProofs (maxSteps := 4000000) only [go_sem, Tryd.f30, hb, clT, judT, spWk, c1, c2, c3, c4, c5]
    | simp +decide -implicitDefEqProofs (maxSteps := 4000000) only [go_sem, Tryd.f30, hb, clT, judT, spWk, c1, c2, c3, c4]
    | simp +decide -implicitDefEqProofs (maxSteps := 4000000) only [go_sem, Tryd.f30, hb, clT, judT, spWk, c1, c2, c3]
    | simp +decide -implicitDefEqProofs (maxSteps := 4000000) only [go_sem, Tryd.f30, hb, clT, judT, spWk, c1, c2]
    | simp +decide -implicitDefEqProofs (maxSteps := 4000000) only [go_sem, Tryd.f30, hb, clT, judT, spWk, c1]
   all_goals
    refine pwpC_loopU (A := { k : Nat // k ≤ marks.length }) [3, 4, 5, 45, 46] (fun k => [(47, .t (.int .i64 k.1)), (7, .t (.bool false))]) (fun _ => []) (fun k => marks.length - k.1) ⟨0, Nat.zero_le _⟩ (by decide) (fun _ => by rfl) ?_ fun Q1 hQ1 ⟨k, hk⟩ I1 hI1 => ?_
    ·simp +decide -implicitDefEqProofs (maxSteps := 4000000) only [go_sem]
    ·have h00 : ¬ (k : Int) < 0 := by omega
     by_cases hlt : (k : Int) < marks.length
     ·first
       | (exfalso; rw [hn] at hlt; simp at hlt; omega)
       | (obtain ⟨x, hx⟩ : ∃ x, marks[k]? = some x := ⟨_, List.getElem?_eq_getElem (by omega)⟩
          have d1 := txs_at hx
          have hk1 := Go.Pm.wS (k := k) (by omega)
          simp +decide -implicitDefEqProofs (maxSteps := 4000000) only [go_sem, hlt, d1, Nat.mul_one]
          refine hI1 _ ⟨k + 1, by omega⟩ (by simp only; omega) ?_
          simp +decide -implicitDefEqProofs (maxSteps := 4000000) only [go_sem, hk1])
     ·simp +decide -implicitDefEqProofs (maxSteps := 4000000) only [go_sem, hlt, h00]
      refine hQ1 _ _ ?_
      simp +decide -implicitDefEqProofs (maxSteps := 4000000) only [go_sem, judT]
  ·have ho' := ho
   unfold headOk at ho'
   simp only [Bool.and_eq_true, decide_eq_true_eq] at ho'
   obtain ⟨c1, c2, c3, c4, c5⟩ := ho'
   have c5' : (marks.length : Int) ≤ 40 := by omega
   rcases hm with ⟨rfl, hn⟩ | ⟨gf, rfl⟩
   all_goals simp +decide -implicitDefEqProofs (maxSteps := 4000000) only [go_sem, Tryd.f30, hb, clT, spWk, c1, c2, c3, c4, c5']
   all_goals
    refine pwpC_loopU (A := { k : Nat // k ≤ marks.length }) [0, 3, 4, 5, 45, 46] (fun k => [(47, .t (.int .i64 k.1)), (7, .t (.bool ((marks.take k.1).all nameB)))]) (fun _ => []) (fun k => marks.length - k.1) ⟨0, Nat.zero_le _⟩ (by decide) (fun _ => by rfl) ?_ fun Q1 hQ1 ⟨k, hk⟩ I1 hI1 => ?_
    ·simp +decide -implicitDefEqProofs (maxSteps := 4000000) only [go_sem, List.take_zero, List.all_nil]
    ·have h00 : ¬ (k : Int) < 0 := by omega
     by_cases hlt : (k : Int) < marks.length
     ·first
       | (exfalso; rw [hn] at hlt; simp at hlt; omega)
       | (obtain ⟨x, hx⟩ : ∃ x, marks[k]? = some x := ⟨_, List.getElem?_eq_getElem (by omega)⟩
          have d1 := txs_at hx
          have hk1 := Go.Pm.wS (k := k) (by omega)
          have hta : (marks.take (k + 1)).all nameB = ((marks.take k).all nameB && nameB x) := by rw [List.take_add_one, hx, List.all_append]; simp
          rcases Bool.eq_false_or_eq_true ((marks.take k).all nameB) with ht | ht
          ·rw [ht, Bool.true_and] at hta
           simp +decide -implicitDefEqProofs (maxSteps := 4000000) only [go_sem, hlt, d1, Nat.mul_one, ht]
           refine hI1 _ ⟨k + 1, by omega⟩ (by simp only; omega) ?_
           simp +decide -implicitDefEqProofs (maxSteps := 4000000) only [go_sem, hk1, hta]
          ·rw [ht, Bool.false_and] at hta
           simp +decide -implicitDefEqProofs (maxSteps := 4000000) only [go_sem, hlt, d1, Nat.mul_one, ht]
           refine hI1 _ ⟨k + 1, by omega⟩ (by simp only; omega) ?_
           simp +decide -implicitDefEqProofs (maxSteps := 4000000) only [go_sem, hk1, hta])
     ·have hke : k = marks.length := by omega
      subst hke
      rcases Bool.eq_false_or_eq_true (marks.all nameB) with ha | ha
      rotate_left
      ·have e : judgeP l ⟨num, day, maker, made, marks⟩ = ((0, 0), 93) := by unfold judgeP; rw [hb, ho]; simp only [ha]; rfl
       simp +decide -implicitDefEqProofs (maxSteps := 4000000) only [go_sem, hlt, h00, List.take_length, ha]
       refine hQ1 _ _ ?_
       simp +decide -implicitDefEqProofs (maxSteps := 4000000) only [go_sem, judT, e, List.take_length, ha]
      ·have e : judgeP l ⟨num, day, maker, made, marks⟩ = (match bearN l num day with
         | none => ((1, 0), 0)
         | some i => match l[i]? with
          | none => ((0, 0), 0)
          | some r => if ¬ r.by_ = maker then ((2, 0), 0) else if ¬ r.day = made then ((3, 0), 0) else
           match diffP (marksK l i day l.length) marks with
           | some k => ((4, (k : Int)), 0)
           | none => ((0, 0), 0)) := by unfold judgeP; rw [hb, ho]; simp only [ha]; rfl
       cases hB : bearN l num day with
       | none =>
        rw [hB] at e
        simp +decide -implicitDefEqProofs (maxSteps := 4000000) only [go_sem, hlt, h00, List.take_length, ha]
        refine hQ1 _ _ ?_
        simp +decide -implicitDefEqProofs (maxSteps := 4000000) only [go_sem, judT, e, List.take_length, ha, hB, optI]
       | some i =>
        rw [hB] at e
        obtain ⟨r, hr, hk1⟩ := cur_made hB
        simp only [hr] at e
        have hil := (List.getElem?_eq_some_iff.1 hr).1
        have hlt2 : (i : Int) < l.length := by omega
        have hi0 : ¬ (i : Int) < 0 := by omega
        have hne : ¬ l = [] := fun e => by rw [e] at hil; simp at hil
        have d1 := recL_at hr
        obtain ⟨f, rfl⟩ : ∃ f, s = .sl (recL l) l.length f := by
         rcases hs with ⟨rfl, e⟩ | ⟨f, rfl⟩
         ·exact absurd e hne
         ·exact ⟨f, rfl⟩
        have hbs := beqS r.by_ maker
        by_cases hmk : r.by_ = maker
        rotate_left
        ·rw [if_pos hmk] at e
         rw [decide_eq_false hmk] at hbs
         simp +decide -implicitDefEqProofs (maxSteps := 4000000) only [go_sem, hlt, h00, List.take_length, ha]
         refine hQ1 _ _ ?_
         simp +decide -implicitDefEqProofs (maxSteps := 4000000) only [go_sem, judT, e, List.take_length, ha, hB, optI, hi0, hlt2, d1, recT, hbs]
        ·rw [if_neg (fun h => h hmk)] at e
         rw [decide_eq_true hmk] at hbs
         by_cases hmd : r.day = made
         rotate_left
         ·rw [if_pos hmd] at e
          have hmd' := bne_int_t hmd
          simp +decide -implicitDefEqProofs (maxSteps := 4000000) only [go_sem, hlt, h00, List.take_length, ha]
          refine hQ1 _ _ ?_
          simp +decide -implicitDefEqProofs (maxSteps := 4000000) only [go_sem, judT, e, List.take_length, ha, hB, optI, hi0, hlt2, d1, recT, hbs, hmd']
         ·rw [if_neg (fun h => h hmd)] at e
          have hmd' := bne_int_f hmd
          have htl := marksK_len (l := l) (i := i) (d := day) (k := l.length)
          simp +decide -implicitDefEqProofs (maxSteps := 4000000) only [go_sem, hlt, h00, List.take_length, ha]
          refine hQ1 _ _ ?_
          generalize hM2 : marksK l i day l.length = M at *
          by_cases hM0 : M.length = 0
          all_goals simp +decide -implicitDefEqProofs (maxSteps := 4000000) only [go_sem, List.take_length, ha, hB, optI, hi0, hlt2, d1, recT, hbs, hmd', hne, hM2, txT, hM0]
          all_goals
           refine pwpC_loopU (A := { k : Nat // k ≤ max M.length marks.length ∧ ∀ j, j < k → diffAt M marks j = false }) [3, 4, 5, 12] (fun k => [(102, .t (.int .i64 k.1)), (101, .t (.int .i64 ((max M.length marks.length : Nat) : Int)))]) (fun _ => []) (fun k => max M.length marks.length - k.1) ⟨0, Nat.zero_le _, fun j hj => absurd hj (by omega)⟩ (by decide) (fun _ => by rfl) ?_ fun Q2 hQ2 ⟨k, hk, hno⟩ I2 hI2 => ?_
           ·have hml : marks.length = marks.length := rfl
            simp +decide -implicitDefEqProofs (maxSteps := 4000000) only [go_sem]
            first | done | omega | (rw [hn]; simp only [List.length_nil]; omega)
           ·have hk1 := Go.Pm.wS (k := k) (by omega)
            by_cases hlt3 : (k : Int) < ((max M.length marks.length : Nat) : Int)
            ·have h1z : (k : Int) ≥ 0 := by omega
             by_cases h1 : (k : Int) ≥ M.length
             ·have hdf : diffAt M marks k = true := by unfold diffAt; rw [decide_eq_true (show M.length ≤ k by omega)]; rfl
              have hdp := diffP_some (by omega) hno hdf
              rw [hdp] at e
              simp +decide -implicitDefEqProofs (maxSteps := 4000000) only [go_sem, hlt3, h1, h1z]
              refine hQ2 _ _ ?_
              simp +decide -implicitDefEqProofs (maxSteps := 4000000) only [go_sem, e, judT]
             ·by_cases h2 : (k : Int) ≥ marks.length
              ·have hdf : diffAt M marks k = true := by unfold diffAt; rw [decide_eq_true (show marks.length ≤ k by omega)]; simp
               have hdp := diffP_some (by omega) hno hdf
               rw [hdp] at e
               first
                | (exfalso; omega)
                | (simp +decide -implicitDefEqProofs (maxSteps := 4000000) only [go_sem, hlt3, h1, h2, h1z]
                   refine hQ2 _ _ ?_
                   simp +decide -implicitDefEqProofs (maxSteps := 4000000) only [go_sem, e, judT])
              ·first
                | (exfalso; omega)
                | (exfalso; rw [hn] at h2; simp only [List.length_nil] at h2; omega)
                | (obtain ⟨x, hx⟩ : ∃ x, M[k]? = some x := ⟨_, List.getElem?_eq_getElem (by omega)⟩
                   obtain ⟨y, hy⟩ : ∃ x, marks[k]? = some x := ⟨_, List.getElem?_eq_getElem (by omega)⟩
                   have dx := txs_at hx
                   have dy := txs_at hy
                   have h1' : (k : Int) < M.length := by omega
                   have h2' : (k : Int) < marks.length := by omega
                   have gx : M.getD k ByteArray.empty = x := by rw [List.getD_eq_getElem?_getD, hx]; rfl
                   have gy : marks.getD k ByteArray.empty = y := by rw [List.getD_eq_getElem?_getD, hy]; rfl
                   have hxy := beqS x y
                   have hdd : diffAt M marks k = !decide (x = y) := by unfold diffAt; rw [gx, gy, decide_eq_false (show ¬ M.length ≤ k by omega), decide_eq_false (show ¬ marks.length ≤ k by omega)]; rfl
                   by_cases he : x = y
                   ·rw [decide_eq_true he] at hxy hdd
                    simp +decide -implicitDefEqProofs (maxSteps := 4000000) only [go_sem, hlt3, h1, h2, h1', h2', dx, dy, Nat.mul_one, hxy]
                    refine hI2 _ ⟨k + 1, by omega, fun j hj => ?_⟩ (by simp only; omega) ?_
                    ·by_cases ej : j = k
                     ·subst ej; exact hdd
                     ·exact hno j (by omega)
                    ·simp +decide -implicitDefEqProofs (maxSteps := 4000000) only [go_sem, hk1]
                   ·rw [decide_eq_false he] at hxy hdd
                    have hdp := diffP_some (by omega) hno hdd
                    rw [hdp] at e
                    simp +decide -implicitDefEqProofs (maxSteps := 4000000) only [go_sem, hlt3, h1, h2, h1', h2', dx, dy, Nat.mul_one, hxy]
                    refine hQ2 _ _ ?_
                    simp +decide -implicitDefEqProofs (maxSteps := 4000000) only [go_sem, e, judT])
            ·have hdp : diffP M marks = none := diffP_none fun j hj => hno j (by omega)
             rw [hdp] at e
             simp +decide -implicitDefEqProofs (maxSteps := 4000000) only [go_sem, hlt3]
             refine hQ2 _ _ ?_
             simp +decide -implicitDefEqProofs (maxSteps := 4000000) only [go_sem, e, judT]
end Go.Proofs.YtdkboibnokipaaaDoor

namespace Go.Ow
open Go Go.RowKit Go.Pm
end Go.Ow
namespace Go.Proofs.YtdkboibnokipaaaDoor
open Go.RowKit Go.Pm Go.Ow
theorem txR_len {s : TV} {l : List ByteArray} (h : txR s l) : (l.length = 0 ∧ (s = .nilSl ∨ ∃ f, s = .sl [] 0 f) ∧ l = []) ∨ (0 < l.length ∧ ∃ f, s = .sl (l.map .str) l.length f) := by
 rcases h with ⟨rfl, rfl⟩ | ⟨f, rfl⟩
 ·exact .inl ⟨rfl, .inl rfl, rfl⟩
 ·cases l with
  | nil => exact .inl ⟨rfl, .inr ⟨f, rfl⟩, rfl⟩
  | cons x l => exact .inr ⟨Nat.succ_pos _, f, rfl⟩
theorem rSameTexts_c {s t : TV} {l m : List ByteArray} (h1 : txR s l) (h2 : txR t m) (hb : l.length ≤ 140737488355328) : PCalls Tryd.prog 56 [s, t] (.bool (decide (l = m))) := by
 refine pcalls_by Tryd.mixes noSpec_ok (fn := Tryd.f56) Tryd.func56 rfl (by kernel_rfl) (by show 2 ≤ _; decide) ?_
 rcases txR_len h1 with ⟨_, hs, rfl⟩ | ⟨hl, f, rfl⟩
 ·rcases txR_len h2 with ⟨_, ht, rfl⟩ | ⟨hm, g, rfl⟩
  ·rcases hs with rfl | ⟨f, rfl⟩
   all_goals rcases ht with rfl | ⟨g, rfl⟩
   all_goals
    simp +decide -implicitDefEqProofs (maxSteps := 4000000) only [go_sem, Tryd.f56]
    refine pwpC_loopU (A := Unit) [0, 1] (fun _ => [(5, .t (.int .i64 0))]) (fun _ => []) (fun _ => 0) () (by decide) (fun _ => by rfl) ?_ fun Q1 hQ1 ⟨⟩ I1 hI1 => ?_
    ·simp +decide -implicitDefEqProofs (maxSteps := 4000000) only [go_sem]
    ·simp +decide -implicitDefEqProofs (maxSteps := 4000000) only [go_sem]
     refine hQ1 _ _ ?_
     simp +decide -implicitDefEqProofs (maxSteps := 4000000) only [go_sem]
     first | done | rfl | trace_state
  ·have hne : decide (([] : List ByteArray) = m) = false := by
    rw [decide_eq_false_iff_not]; rintro rfl; simp at hm
   have hc : ((0 : Int) != (m.length : Int)) = true := by simp; omega
   rcases hs with rfl | ⟨f, rfl⟩
   ·simp +decide -implicitDefEqProofs (maxSteps := 4000000) only [go_sem, Tryd.f56, hc, hne]
   ·simp +decide -implicitDefEqProofs (maxSteps := 4000000) only [go_sem, Tryd.f56, hc, hne]
 ·rcases txR_len h2 with ⟨_, ht, rfl⟩ | ⟨hm, g, rfl⟩
  ·have hne : decide (l = []) = false := by
    rw [decide_eq_false_iff_not]; rintro rfl; simp at hl
   have hc : ((l.length : Int) != 0) = true := bne_int_t (by omega)
   rcases ht with rfl | ⟨f, rfl⟩
   ·simp +decide -implicitDefEqProofs (maxSteps := 4000000) only [go_sem, Tryd.f56, hc, hne]
   ·simp +decide -implicitDefEqProofs (maxSteps := 4000000) only [go_sem, Tryd.f56, hc, hne]
  ·by_cases hlm : l.length = m.length
   ·have hc : ((l.length : Int) != (m.length : Int)) = false := bne_int_f (by omega)
    simp +decide -implicitDefEqProofs (maxSteps := 4000000) only [go_sem, Tryd.f56, hc]
    refine pwpC_loopU (A := { k : Nat // k ≤ l.length ∧ ∀ j, j < k → l[j]? = m[j]? }) [0, 1] (fun k => [(5, .t (.int .i64 k.1))]) (fun _ => []) (fun k => l.length - k.1) ⟨0, by omega, fun j h => absurd h (by omega)⟩ (by decide) (fun _ => by rfl) ?_ fun Q1 hQ1 ⟨k, hk, hall⟩ I1 hI1 => ?_
    ·simp +decide -implicitDefEqProofs (maxSteps := 4000000) only [go_sem]
    ·by_cases hlt : (k : Int) < l.length
     ·obtain ⟨x, hx⟩ : ∃ x, l[k]? = some x := ⟨_, List.getElem?_eq_getElem (by omega)⟩
      obtain ⟨y, hy⟩ : ∃ y, m[k]? = some y := ⟨_, List.getElem?_eq_getElem (by omega)⟩
      have dx := txs_at hx
      have dy := txs_at hy
      have hlt2 : (k : Int) < m.length := by omega
      have hk1 := Go.Pm.wS (k := k) (by omega)
      have hbn := beqS x y
      by_cases e : x = y
      ·rw [decide_eq_true e] at hbn
       simp +decide -implicitDefEqProofs (maxSteps := 4000000) only [go_sem, hlt, hlt2, dx, dy, hbn, Nat.mul_one]
       refine hI1 _ ⟨k + 1, by omega, fun j hj => ?_⟩ (by simp only; omega) ?_
       ·by_cases ej : j = k
        ·subst ej; rw [hx, hy, e]
        ·exact hall j (by omega)
       ·simp +decide -implicitDefEqProofs (maxSteps := 4000000) only [go_sem, hk1]
      ·rw [decide_eq_false e] at hbn
       have hne : decide (l = m) = false := by
        rw [decide_eq_false_iff_not]
        rintro rfl
        rw [hx] at hy
        exact e (Option.some.inj hy)
       simp +decide -implicitDefEqProofs (maxSteps := 4000000) only [go_sem, hlt, hlt2, dx, dy, hbn, Nat.mul_one]
       refine hQ1 _ _ ?_
       simp +decide -implicitDefEqProofs (maxSteps := 4000000) only [go_sem, hne]
     ·have hle : decide (l = m) = true := by
       rw [decide_eq_true_eq]
       apply List.ext_getElem?
       intro j
       by_cases hj : j < l.length
       ·exact hall j (by omega)
       ·rw [List.getElem?_eq_none (by omega), List.getElem?_eq_none (by omega)]
      simp +decide -implicitDefEqProofs (maxSteps := 4000000) only [go_sem, hlt]
      refine hQ1 _ _ ?_
      simp +decide -implicitDefEqProofs (maxSteps := 4000000) only [go_sem, hle]
   ·have hc : ((l.length : Int) != (m.length : Int)) = true := bne_int_t (by omega)
    have hne : decide (l = m) = false := by
     rw [decide_eq_false_iff_not]; rintro rfl; exact hlm rfl
    simp +decide -implicitDefEqProofs (maxSteps := 4000000) only [go_sem, Tryd.f56, hc, hne]
open Classical in
noncomputable def rSm (p q : List (List ByteArray)) : List TV → Option TV
 | [s, t] => if h : ∃ (l m : List ByteArray), txR s l ∧ txR t m ∧ l ∈ p then some (.bool (decide (Classical.choose h = Classical.choose (Classical.choose_spec h)))) else none
 | _ => none
open Classical in
theorem rSm_of {p q : List (List ByteArray)} {s t : TV} {l m : List ByteArray} (h1 : txR s l) (h2 : txR t m) (hl : l ∈ p) : rSm p q [s, t] = some (.bool (decide (l = m))) := by
 have h : ∃ (l m : List ByteArray), txR s l ∧ txR t m ∧ l ∈ p := ⟨l, m, h1, h2, hl⟩
 have hs := Classical.choose_spec (Classical.choose_spec h)
 have e1 := txR_inj hs.1 h1
 have e2 := txR_inj hs.2.1 h2
 show (if h : ∃ (l m : List ByteArray), txR s l ∧ txR t m ∧ l ∈ p then some (TV.bool (decide (Classical.choose h = Classical.choose (Classical.choose_spec h)))) else none) = _
 rw [dif_pos h]
 have : decide (Classical.choose h = Classical.choose (Classical.choose_spec h)) = decide (l = m) := decide_eq_decide.2 ⟨fun e => e1.symm.trans (e.trans e2), fun e => e1.trans (e.trans e2.symm)⟩
 rw [this]
theorem rSm_ok {p q : List (List ByteArray)} (hb : ∀ l ∈ p, l.length ≤ 140737488355328) : ∀ a r, rSm p q a = some r → PCalls Tryd.prog 56 a r := by
 intro a r e
 unfold rSm at e
 split at e
 ·split at e
  ·rename_i h
   cases e
   have hs := Classical.choose_spec (Classical.choose_spec h)
   exact rSameTexts_c hs.1 hs.2.1 (hb _ hs.2.2)
  ·cases e
 ·cases e
theorem pgR_len {s : TV} {p : List (List ByteArray)} (h : pgR s p) : (p.length = 0 ∧ (s = .nilSl ∨ ∃ f, s = .sl [] 0 f) ∧ p = []) ∨ (0 < p.length ∧ ∃ rs f, s = .sl rs p.length f ∧ rs.length = p.length ∧ ∀ (k : Nat) (r : List ByteArray) (t : TV), p[k]? = some r → rs[k]? = some t → txR t r) := by
 rcases h with ⟨rfl, rfl⟩ | ⟨rs, f, rfl, h1, h2⟩
 ·exact .inl ⟨rfl, .inl rfl, rfl⟩
 ·cases p with
  | nil =>
   have : rs = [] := List.eq_nil_of_length_eq_zero h1
   subst this
   exact .inl ⟨rfl, .inr ⟨f, rfl⟩, rfl⟩
  | cons x l => exact .inr ⟨Nat.succ_pos _, rs, f, rfl, h1, h2⟩
theorem rSamePages_c {s t : TV} {p q : List (List ByteArray)} (h1 : pgR s p) (h2 : pgR t q) (hb : p.length ≤ 140737488355328) (hb2 : ∀ l ∈ p, l.length ≤ 140737488355328) : PCalls Tryd.prog 16 [s, t] (.bool (decide (p = q))) := by
 refine pcalls_by Tryd.mixes (Spec.gdt_ok (Spec.one_ok (rSm_ok (p := p) (q := q) hb2) noSpec_ok)) (fn := Tryd.f16) Tryd.func16 rfl (by kernel_rfl) (by show 2 ≤ _; decide) ?_
 rcases pgR_len h1 with ⟨_, hs, rfl⟩ | ⟨hl, rs, f, rfl, hrl, hrs⟩
 ·rcases pgR_len h2 with ⟨_, ht, rfl⟩ | ⟨hm, rt, g, rfl, htl, hrt⟩
  ·rcases hs with rfl | ⟨f, rfl⟩
   all_goals rcases ht with rfl | ⟨g, rfl⟩
   all_goals
    simp +decide -implicitDefEqProofs (maxSteps := 4000000) only [go_sem, Tryd.f16]
    refine pwpC_loopU (A := Unit) [0, 1, 5] (fun _ => [(6, .t (.int .i64 0))]) (fun _ => []) (fun _ => 0) () (by decide) (fun _ => by rfl) ?_ fun Q1 hQ1 ⟨⟩ I1 hI1 => ?_
    ·simp +decide -implicitDefEqProofs (maxSteps := 4000000) only [go_sem]
    ·simp +decide -implicitDefEqProofs (maxSteps := 4000000) only [go_sem]
     refine hQ1 _ _ ?_
     simp +decide -implicitDefEqProofs (maxSteps := 4000000) only [go_sem]
     first | done | rfl | trace_state
  ·have hne : decide (([] : List (List ByteArray)) = q) = false := by
    rw [decide_eq_false_iff_not]; rintro rfl; simp at hm
   have hc : ((0 : Int) == (q.length : Int)) = false := by simp; omega
   rcases hs with rfl | ⟨f, rfl⟩
   all_goals
    simp +decide -implicitDefEqProofs (maxSteps := 4000000) only [go_sem, Tryd.f16, hc, hne]
    refine pwpC_loopU (A := Unit) [0, 1, 5] (fun _ => [(6, .t (.int .i64 0))]) (fun _ => []) (fun _ => 0) () (by decide) (fun _ => by rfl) ?_ fun Q1 hQ1 ⟨⟩ I1 hI1 => ?_
    ·simp +decide -implicitDefEqProofs (maxSteps := 4000000) only [go_sem]
    ·simp +decide -implicitDefEqProofs (maxSteps := 4000000) only [go_sem]
     refine hQ1 _ _ ?_
     simp +decide -implicitDefEqProofs (maxSteps := 4000000) only [go_sem]
     first | done | rfl | trace_state
 ·by_cases hlm : p.length = q.length
  rotate_left
  ·have hne : decide (p = q) = false := by
    rw [decide_eq_false_iff_not]; rintro rfl; exact hlm rfl
   have hc : ((p.length : Int) == (q.length : Int)) = false := by simpa using fun e => hlm (by omega)
   rcases pgR_len h2 with ⟨_, ht, rfl⟩ | ⟨hm, rt, g, rfl, htl, hrt⟩
   ·have hc : ((p.length : Int) == 0) = false := by simpa using fun e => hlm (by simp [e])
    rcases ht with rfl | ⟨g, rfl⟩
    all_goals
     simp +decide -implicitDefEqProofs (maxSteps := 4000000) only [go_sem, Tryd.f16, hc, hne]
     refine pwpC_loopU (A := Unit) [0, 1, 5] (fun _ => [(6, .t (.int .i64 0))]) (fun _ => []) (fun _ => 0) () (by decide) (fun _ => by rfl) ?_ fun Q1 hQ1 ⟨⟩ I1 hI1 => ?_
     ·simp +decide -implicitDefEqProofs (maxSteps := 4000000) only [go_sem]
     ·simp +decide -implicitDefEqProofs (maxSteps := 4000000) only [go_sem]
      refine hQ1 _ _ ?_
      simp +decide -implicitDefEqProofs (maxSteps := 4000000) only [go_sem]
      first | done | rfl | trace_state
   ·simp +decide -implicitDefEqProofs (maxSteps := 4000000) only [go_sem, Tryd.f16, hc, hne]
    refine pwpC_loopU (A := Unit) [0, 1, 5] (fun _ => [(6, .t (.int .i64 0))]) (fun _ => []) (fun _ => 0) () (by decide) (fun _ => by rfl) ?_ fun Q1 hQ1 ⟨⟩ I1 hI1 => ?_
    ·simp +decide -implicitDefEqProofs (maxSteps := 4000000) only [go_sem]
    ·simp +decide -implicitDefEqProofs (maxSteps := 4000000) only [go_sem]
     refine hQ1 _ _ ?_
     simp +decide -implicitDefEqProofs (maxSteps := 4000000) only [go_sem]
     first | done | rfl | trace_state
  ·obtain ⟨rt, g, rfl, htl, hrt⟩ : ∃ rs f, t = .sl rs q.length f ∧ rs.length = q.length ∧ ∀ (k : Nat) (r : List ByteArray) (t : TV), q[k]? = some r → rs[k]? = some t → txR t r := by
    rcases pgR_len h2 with ⟨h, _⟩ | ⟨_, h⟩
    ·omega
    ·exact h
   have hc : ((p.length : Int) == (q.length : Int)) = true := by simp; omega
   simp +decide -implicitDefEqProofs (maxSteps := 4000000) only [go_sem, Tryd.f16, hc]
   refine pwpC_loopU (A := { x : Nat × Bool // x.1 ≤ p.length ∧ (x.2 = true → ∀ j, j < x.1 → p[j]? = q[j]?) ∧ (x.2 = false → p ≠ q) }) [0, 1] (fun x => [(6, .t (.int .i64 x.1.1)), (5, .t (.bool x.1.2))]) (fun _ => []) (fun x => p.length - x.1.1) ⟨(0, true), by simp, fun _ j h => absurd h (by simp), fun h => by cases h⟩ (by decide) (fun _ => by rfl) ?_ fun Q1 hQ1 ⟨⟨k, b⟩, hk, hall, hno⟩ I1 hI1 => ?_
   ·simp +decide -implicitDefEqProofs (maxSteps := 4000000) only [go_sem]
   ·simp only at hk hall hno ⊢
    cases b with
    | false =>
     have hne : decide (p = q) = false := decide_eq_false (hno rfl)
     simp +decide -implicitDefEqProofs (maxSteps := 4000000) only [go_sem]
     refine hQ1 _ _ ?_
     simp +decide -implicitDefEqProofs (maxSteps := 4000000) only [go_sem, hne]
    | true =>
     by_cases hlt : (k : Int) < p.length
     ·obtain ⟨x, hx⟩ : ∃ x, p[k]? = some x := ⟨_, List.getElem?_eq_getElem (by omega)⟩
      obtain ⟨y, hy⟩ : ∃ y, q[k]? = some y := ⟨_, List.getElem?_eq_getElem (by omega)⟩
      obtain ⟨u, hu⟩ : ∃ u, rs[k]? = some u := ⟨_, List.getElem?_eq_getElem (by omega)⟩
      obtain ⟨v, hvv⟩ : ∃ v, rt[k]? = some v := ⟨_, List.getElem?_eq_getElem (by omega)⟩
      have du := tv_at hu
      have dv := tv_at hvv
      have hlt2 : (k : Int) < q.length := by omega
      have hk1 := Go.Pm.wS (k := k) (by omega)
      have hsm := rSm_of (p := p) (q := q) (hrs k x u hx hu) (hrt k y v hy hvv) (List.mem_of_getElem? hx)
      simp +decide -implicitDefEqProofs (maxSteps := 4000000) only [go_sem, hlt, hlt2, du, dv, hsm, Nat.mul_one]
      refine hI1 _ ⟨(k + 1, decide (x = y)), by simp only; omega, fun h j hj => ?_, fun h e => ?_⟩ (by simp only; omega) ?_
      ·simp only [decide_eq_true_eq] at h
       by_cases ej : j = k
       ·subst ej; rw [hx, hy, h]
       ·exact hall rfl j (by simp only at hj; omega)
      ·simp only [decide_eq_false_iff_not] at h
       subst e
       rw [hx] at hy
       exact h (Option.some.inj hy)
      ·simp +decide -implicitDefEqProofs (maxSteps := 4000000) only [go_sem, hk1]
     ·have hle : decide (p = q) = true := by
       rw [decide_eq_true_eq]
       apply List.ext_getElem?
       intro j
       by_cases hj : j < p.length
       ·exact hall rfl j (by omega)
       ·rw [List.getElem?_eq_none (by omega), List.getElem?_eq_none (by omega)]
      simp +decide -implicitDefEqProofs (maxSteps := 4000000) only [go_sem, hlt]
      refine hQ1 _ _ ?_
      simp +decide -implicitDefEqProofs (maxSteps := 4000000) only [go_sem, hle]
end Go.Proofs.YtdkboibnokipaaaDoor

namespace Go.Ow
open Go Go.RowKit Go.Pm
def rowT (r : List ByteArray) : List UInt8 := Lib.join (r.map (·.data.toList)) [32] ++ [10]
def textP (p : List (List ByteArray)) : List UInt8 := (p.map rowT).flatten
theorem textP_snoc {p : List (List ByteArray)} {k : Nat} {r : List ByteArray} (h : p[k]? = some r) : textP (p.take (k + 1)) = textP (p.take k) ++ rowT r := by
 unfold textP; rw [List.take_add_one, h]; simp
theorem join_len : ∀ (l : List (List UInt8)) (m : Nat), (∀ x ∈ l, x.length ≤ m) → (Lib.join l [32]).length ≤ l.length * (m + 1)
 | [], m, _ => by rw [Lib.join_nil]; simp
 | [x], m, h => by
  rw [Lib.join_one]
  have := h x List.mem_cons_self
  simp only [List.length_cons, List.length_nil]; omega
 | x :: y :: l, m, h => by
  have e : Lib.join (x :: y :: l) [32] = x ++ ([32] ++ Lib.join (y :: l) [32]) := by simp [Lib.join, List.intercalate]
  have h1 := h x List.mem_cons_self
  have ih := join_len (y :: l) m fun z hz => h z (List.mem_cons_of_mem _ hz)
  rw [e]
  simp only [List.length_append, List.length_cons, List.length_nil] at *
  have : (l.length + 1 + 1) * (m + 1) = (l.length + 1) * (m + 1) + (m + 1) := Nat.succ_mul _ _
  omega
theorem join_le {r : List ByteArray} (h : ∀ x ∈ r, x.size ≤ 5) (h5 : r.length ≤ 5) : (Lib.join (r.map (·.data.toList)) [32]).length ≤ 40 := by
 have := join_len (r.map (·.data.toList)) 5 (fun x hx => by
  obtain ⟨y, hy, rfl⟩ := List.mem_map.1 hx
  rw [bytes_len]; exact h y hy)
 rw [List.length_map] at this
 omega
theorem rowT_len {r : List ByteArray} (h : ∀ x ∈ r, x.size ≤ 5) (h5 : r.length ≤ 5) : (rowT r).length ≤ 41 := by
 unfold rowT
 have := join_le h h5
 rw [List.length_append]
 simp only [List.length_cons, List.length_nil]; omega
theorem textP_len {p : List (List ByteArray)} (h : validB p = true) : ∀ {k : Nat}, k ≤ p.length → (textP (p.take k)).length ≤ 41 * k
 | 0, _ => by simp [textP]
 | k + 1, hk => by
  obtain ⟨r, hr⟩ : ∃ r, p[k]? = some r := ⟨_, List.getElem?_eq_getElem (by omega)⟩
  have ih := textP_len h (k := k) (by omega)
  have hvr := valid_row h hr
  have := rowT_len (r := r) (fun x hx => (entB_size (hvr.2.2 x hx)).2) hvr.1.2
  rw [textP_snoc hr, List.length_append]; omega
theorem builder_kept {T e : TypeId} {B b : Nat} {bs : List Value} {w w' : World} (h : Lib.IsBuilderF T e B b bs w) (hb : Below w.heap.size w w') : Lib.IsBuilderF T e B b bs w' := by
 have key : ∀ {q : Value}, Lib.BuilderAtF T e B b q bs w → Lib.BuilderAtF T e B b q bs w' := by
  rintro q ⟨hB, v, hbk, hown, hne⟩
  refine ⟨hB, v, ?_, hown.kept (row := none) ⟨hb.os, hb.tape, hb.output, hb.size, fun k hk _ => hb.block k hk⟩ ?_, hne⟩
  ·rw [hb.block b (Array.getElem?_eq_some_iff.1 hbk).1]; exact hbk
  ·cases v.ownBlock with
   | none => exact .inl rfl
   | some x => exact .inr (by simp)
 rcases h with h | h
 ·exact .inl (key h)
 ·exact .inr (key h)
theorem ba_app (l m : List UInt8) : ((ByteArray.mk l.toArray) ++ (ByteArray.mk m.toArray)).data.toList = l ++ m := by
 rw [ByteArray.data_append]; simp
end Go.Ow
namespace Go.Proofs.YtdkboibnokipaaaDoor
open Go.RowKit Go.Pm Go.Ow Go.Shelf
set_option maxRecDepth 1000000
theorem wPrintN_c {s : TV} {p : List (List ByteArray)} (hs : pgR s p) (hv : validB p = false) : PCalls Tryd.prog 22 [s] (.tup [.str ⟨#[]⟩, .int .i64 90]) := by
 refine pcalls_by Tryd.mixes (Spec.one_ok (oneP_ok (wCheckPage_c hs)) noSpec_ok) (fn := Tryd.f22) Tryd.func22 rfl (by kernel_rfl) (by show 1 ≤ _; decide) ?_
 simp +decide -implicitDefEqProofs (maxSteps := 4000000) only [go_sem, Tryd.f22, hv]
theorem Builder_WriteString_x (B b : Nat) (bs : List Value) (s : ByteArray) (w : World) (h : Lib.IsBuilderF 110 5 B b bs w) (hlen : bs.length + s.size ≤ 140737488355328) (hBw : B ≤ w.heap.size) : Calls Tryd.prog 60 #[.pointer (some ⟨b, 0, none⟩), .string s] w fun e w' => e = .returned (.tuple #[.int .i64 s.size, .nilIface]) ∧ (Lib.BuilderAtF 110 5 B b (.pointer (some ⟨b, 0, none⟩)) (bs ++ Lib.strCells s) w' ∧ Below B w w') := Any.Builder_WriteString_f (P := Tryd.prog) (ρ := Tryd.lays156_ren) { Tryd.lays156 with } Tryd.Builder_Extra_156 B b bs s w h hlen hBw
theorem Builder_String_x (B b : Nat) (l : List UInt8) (w : World) (h : Lib.IsBuilderF 110 5 B b (Lib.byteCells l) w) (hBw : B ≤ w.heap.size) : Calls Tryd.prog 62 #[.pointer (some ⟨b, 0, none⟩)] w fun e w' => e = .returned (.string ⟨l.toArray⟩) ∧ (Lib.IsBuilderF 110 5 B b (Lib.byteCells l) w' ∧ Below B w w') := Any.Builder_String_any_f (P := Tryd.prog) (ρ := Tryd.lays156_ren) { Tryd.lays156 with } Tryd.Builder_Extra_156 B b l w h hBw
theorem strings_Join_x (bk o c : Nat) (xs : List ByteArray) (w : World) (hcells : ∀ (j : Nat) x, xs[j]? = some x → w.cell? ⟨bk, o + j, none⟩ = some (.string x)) (hbk : bk < w.heap.size) (hN : xs.length ≤ 140737488355328) (hcap : xs.length ≤ c) (hlen : (Lib.join (xs.map (·.data.toList)) [32]).length ≤ 140737488355328) : Calls Tryd.prog 61 #[.slice (some ⟨bk, o, none⟩) xs.length c, .string ⟨#[32]⟩] w fun e w' => e = .returned (.string ⟨(Lib.join (xs.map (·.data.toList)) [32]).toArray⟩) ∧ Below w.heap.size w w' := Any.strings_Join (P := Tryd.prog) (ρ := Tryd.lays156_ren) Tryd.lays156 Tryd.Builder_Extra_156 bk o c xs ⟨#[32]⟩ w hcells hbk hN hcap hlen
set_option maxHeartbeats 1000000 in
theorem wPrint_c {s : TV} {p : List (List ByteArray)} (hs : pgR s p) (hv : validB p = true) : PCalls Tryd.prog 22 [s] (.tup [.str ⟨(textP p).toArray⟩, .int .i64 0]) := by
 have hC := wCheckPage_c hs
 rw [hv, if_pos rfl] at hC
 obtain ⟨hpl, _⟩ := valid_len hv
 obtain ⟨rs, f, rfl, hrl, hrs⟩ : ∃ rs f, s = .sl rs p.length f ∧ rs.length = p.length ∧ ∀ (k : Nat) (r : List ByteArray) (t : TV), p[k]? = some r → rs[k]? = some t → txR t r := by
  rcases hs with ⟨_, rfl⟩ | h
  ·simp at hpl
  ·exact h
 refine ⟨⟨_, Tryd.func22, rfl, by kernel_rfl⟩, fun w F φ us H hr => ?_⟩
 have hr' : RepL F [.sl rs p.length f] us := ⟨by simpa using hr.1, fun i c' u hc hu => hr.2 i (.t c') u (by rw [List.getElem?_map, hc]; rfl) hu⟩
 obtain ⟨u, rfl, hu⟩ := repl1 hr'
 have cC := hC.2 w F φ [u] H hr
 have hag := H.agree
 have spot : ∀ {a : Addr} {v : Value}, w.cell? a = some v → ∃ b o, a = ⟨b, o, none⟩ := by
  intro a v h
  obtain ⟨b, o, sp⟩ := a
  cases sp with
  | none => exact ⟨b, o, rfl⟩
  | some k =>
   exfalso
   unfold World.cell? at h
   split at h
   ·simp at h
   ·cases h
 obtain ⟨bk, o, cap, rfl, hrow⟩ : ∃ bk o cap, u = .slice (some ⟨bk, o, none⟩) p.length cap ∧ ∀ (k : Nat) (r : List ByteArray), p[k]? = some r → ∃ bk' o' cap', w.cell? ⟨bk, o + k, none⟩ = some (.slice (some ⟨bk', o', none⟩) r.length cap') ∧ bk' < w.heap.size ∧ r.length ≤ cap' ∧ ∀ (j : Nat) x, r[j]? = some x → w.cell? ⟨bk', o' + j, none⟩ = some (.string x) := by
  clear cC hr hr'
  cases hu with
  | sl cs n full a cap vs hl hF hrr h1' h2 h3 =>
   have hcell : ∀ (k : Nat) v, vs[k]? = some v → w.cell? (a.add k) = some v := fun k v hv => look_cell (hag _ _ (hF k v hv).1) (hF k v hv).2
   obtain ⟨v0, hv0⟩ : ∃ v, vs[0]? = some v := ⟨_, List.getElem?_eq_getElem (by omega)⟩
   have hc0 := hcell 0 v0 hv0
   rw [add_zero] at hc0
   obtain ⟨bk, o, rfl⟩ := spot hc0
   refine ⟨bk, o, cap, rfl, fun k r hk => ?_⟩
   have hkl := (List.getElem?_eq_some_iff.1 hk).1
   obtain ⟨t, ht⟩ : ∃ t, rs[k]? = some t := ⟨_, List.getElem?_eq_getElem (by omega)⟩
   obtain ⟨v, hv⟩ : ∃ v, vs[k]? = some v := ⟨_, List.getElem?_eq_getElem (by omega)⟩
   have hc := hcell k v hv
   rw [add_plain] at hc
   have hvr := valid_row ‹_› hk
   have hx := hrs k r t hk ht
   obtain ⟨g, rfl⟩ : ∃ g, t = .sl (r.map .str) r.length g := by
    rcases hx with ⟨_, rfl⟩ | ⟨g, e⟩
    ·have := hvr.1.1; simp at this
    ·exact ⟨g, e⟩
   have hrt := hrr k _ v ht hv
   cases hrt with
   | sl cs' n' full' a' cap' vs' hl' hF' hrr' h1'' h2' h3' =>
    have hcell' : ∀ (j : Nat) x, r[j]? = some x → w.cell? (a'.add j) = some (.string x) := by
     intro j x hx
     have hj : j < vs'.length := by rw [hl', List.length_map]; exact (List.getElem?_eq_some_iff.1 hx).1
     have hu := List.getElem?_eq_getElem hj
     have hc := hrr' j (.str x) vs'[j] (by rw [List.getElem?_map, hx]; rfl) hu
     have := look_cell (hag _ _ (hF' j _ hu).1) (hF' j _ hu).2
     rw [str_inv hc] at this
     exact this
    obtain ⟨x0, hx0⟩ : ∃ x, r[0]? = some x := ⟨_, List.getElem?_eq_getElem (by have := hvr.1.1; omega)⟩
    have hc0 := hcell' 0 x0 hx0
    rw [add_zero] at hc0
    obtain ⟨bk', o', rfl⟩ := spot hc0
    exact ⟨bk', o', cap', hc, World.block_lt_of_cell? _ _ hc0, h1'', fun j x hx => by have := hcell' j x hx; rwa [add_plain] at this⟩
 go_enter Tryd.func22, Tryd.ntmps22
 go_wp2_with (go_at_call 17; refine cC.mono ?_)
 rintro e w1 ⟨u1, F1, φ1, rfl, H1, hu1⟩
 have hu1 : u1 = .int .i64 0 := by cases hu1; rfl
 subst hu1
 go_wp2
 go_loopw [15] (fun iv wr => ∃ k : Nat, iv = .int .i64 k ∧ k ≤ p.length ∧ Lib.IsBuilderF 110 5 w1.heap.size w1.heap.size (Lib.byteCells (textP (p.take k))) wr ∧ Below w1.heap.size w1 wr) (fun iv _ => p.length - (Lib.intOf iv).toNat)
 case atStart =>
  refine ⟨0, rfl, Nat.zero_le _, ?_, (Below.refl _ w1).alloc (Nat.le_refl _) _⟩
  have := Lib.fresh_isBuilder 110 5 w1
  exact Lib.IsBuilderF.of this
 case round =>
  obtain ⟨k, rfl, hk, hI, hbw⟩ := hrel
  have hb1 : Below w.heap.size w w1 := ⟨H1.bel.os, H1.bel.tape, H1.bel.output, H1.bel.size, fun j hj => H1.bel.block j hj (fun ho => by obtain ⟨id, hl, _⟩ := ho; cases hl)⟩
  have hcell : ∀ {a : Addr} {v : Value}, a.block < w.heap.size → w.cell? a = some v → wr.cell? a = some v := by
   intro a v hl h
   have e1 : wr.heap[a.block]? = w.heap[a.block]? := by rw [hbw.block _ (Nat.lt_of_lt_of_le hl hb1.size), hb1.block _ hl]
   unfold World.cell? at h ⊢
   rw [e1]; exact h
  by_cases hlt : (k : Int) < p.length
  ·obtain ⟨r, hr0⟩ : ∃ r, p[k]? = some r := ⟨_, List.getElem?_eq_getElem (by omega)⟩
   obtain ⟨bk', o', cap', c1, c2, c3, c4⟩ := hrow k r hr0
   have cr := hcell (World.block_lt_of_cell? _ _ c1) c1
   have hw2 : w1.heap.size ≤ wr.heap.size := hbw.size
   have hb2 := hb1.size
   have hvr := valid_row hv hr0
   have hsz : ∀ x ∈ r, x.size ≤ 5 := fun x hx => (entB_size (hvr.2.2 x hx)).2
   have hjl : (Lib.join (r.map (·.data.toList)) [32]).length ≤ 40 := join_le hsz hvr.1.2
   have cJ := strings_Join_x bk' o' cap' r wr (fun j x hx => hcell c2 (c4 j x hx)) (by omega) (by omega) c3 (by omega)
   clear hvr hsz hjl
   go_wp2_with (go_at_call 61; refine cJ.mono ?_)
   rintro e w2 ⟨rfl, hbj⟩
   have hrow5 : textP (p.take (k + 1)) = textP (p.take k) ++ rowT r := textP_snoc hr0
   have hjl : (Lib.join (r.map (·.data.toList)) [32]).length ≤ 40 := by
    have hvr := valid_row hv hr0
    exact join_le (fun x hx => (entB_size (hvr.2.2 x hx)).2) hvr.1.2
   have hbj' : Below wr.heap.size wr w2 := hbj
   have hI2 : Lib.IsBuilderF 110 5 w1.heap.size w1.heap.size (Lib.byteCells (textP (p.take k))) w2 := builder_kept hI hbj'
   have hsz2 : w1.heap.size ≤ w2.heap.size := Nat.le_trans hw2 hbj'.size
   have htk := textP_len hv hk
   have happ := ba_app (Lib.join (r.map (·.data.toList)) [32]) [10]
   have hszz : ((ByteArray.mk (Lib.join (r.map (·.data.toList)) [32]).toArray) ++ (ByteArray.mk #[10])).size ≤ 41 := by
    rw [← bytes_len]
    have : ((ByteArray.mk (Lib.join (r.map (·.data.toList)) [32]).toArray) ++ (ByteArray.mk #[10])).data.toList = Lib.join (r.map (·.data.toList)) [32] ++ [10] := happ
    rw [this, List.length_append]
    simp only [List.length_cons, List.length_nil]; omega
   have cW := Builder_WriteString_x w1.heap.size w1.heap.size _ ((ByteArray.mk (Lib.join (r.map (·.data.toList)) [32]).toArray) ++ (ByteArray.mk #[10])) w2 hI2 (by rw [Lib.byteCells_length]; omega) hsz2
   go_wp2_with (go_at_call 60; refine cW.mono ?_)
   rintro e w3 ⟨rfl, h1, hbs⟩
   go_wp2
   go_roundw
   case rel =>
    refine ⟨k + 1, ?_, by omega, ?_, ?_⟩
    ·rfl
    ·rw [hrow5, Lib.byteCells_append]
     have : Lib.byteCells (rowT r) = Lib.strCells ((ByteArray.mk (Lib.join (r.map (·.data.toList)) [32]).toArray) ++ (ByteArray.mk #[10])) := by
      rw [Lib.strCells_eq]; exact congrArg Lib.byteCells happ.symm
     rw [this]
     exact .inr h1
    ·exact hbw.trans ((hbj'.mono hw2).trans hbs)
   case measure =>
    simp only [Lib.intOf]
    omega
  ·have hke : k = p.length := by omega
   subst hke
   have cS := Builder_String_x w1.heap.size w1.heap.size _ wr hI hbw.size
   go_wp2_with (go_at_call 62; refine cS.mono ?_)
   intro e w2 he h1 hbs
   subst he
   go_wp2
   go_ret2
   have hb3 : Below w1.heap.size w1 w2 := hbw.trans hbs
   refine ⟨_, F1, φ1, rfl, H1.grow (Fz.le_refl _) (fun a v hv => ?_) (fun a v g1 g2 => by rw [g1] at g2; cases g2) hb3, ?_⟩
   ·have := H1.agree a v hv
    rw [look_same (hb3.block _ (cell_lt this))]; exact this
   ·rw [List.take_length] at *
    refine .tup [_, _] [.string ⟨(textP p).toArray⟩, .int .i64 0] rfl fun i c u hc hu => ?_
    match i with
    | 0 => cases hc; cases hu; exact .str _
    | 1 => cases hc; cases hu; exact .int _ _
    | (i + 2) => cases hc
end Go.Proofs.YtdkboibnokipaaaDoor

namespace Go.Ow
open Go Go.RowKit Go.Pm
def wetP : List (List ByteArray) := [[⟨#[49, 50]⟩, ⟨#[63, 53]⟩, ⟨#[52, 55]⟩], [⟨#[56]⟩, ⟨#[50, 48]⟩, ⟨#[50, 63]⟩], [⟨#[50, 63]⟩, ⟨#[53, 53]⟩, ⟨#[55, 53]⟩]]
def openP : List (List ByteArray) := [[⟨#[49, 63]⟩, ⟨#[52]⟩, ⟨#[49, 63]⟩], [⟨#[50]⟩, ⟨#[51]⟩, ⟨#[53]⟩], [⟨#[49, 63]⟩, ⟨#[55]⟩, ⟨#[50, 63]⟩]]
def dryP : List (List ByteArray) := [[⟨#[49, 50]⟩, ⟨#[51, 53]⟩, ⟨#[52, 55]⟩], [⟨#[56]⟩, ⟨#[50, 48]⟩, ⟨#[50, 56]⟩], [⟨#[50, 48]⟩, ⟨#[53, 53]⟩, ⟨#[55, 53]⟩]]
def wetS : ByteArray := ⟨#[49, 50, 32, 63, 53, 32, 52, 55, 10, 56, 32, 50, 48, 32, 50, 63, 10, 50, 63, 32, 53, 53, 32, 55, 53, 10]⟩
def litT (p : List (List ByteArray)) : TV := .sl (p.map fun r => .sl (r.map .str) r.length true) p.length true
theorem litT_R (p : List (List ByteArray)) : pgR (litT p) p := .inr ⟨_, true, rfl, List.length_map _, fun k r t hr ht => by
 rw [List.getElem?_map, hr] at ht
 cases ht
 exact .inr ⟨true, rfl⟩⟩
theorem wet_valid : validB wetP = true := by decide
theorem open_valid : validB openP = true := by decide
theorem wet_read : readG wetP = [[3, 8, 0]] := by decide +kernel
theorem open_read : readG openP = [[1, 5, 3, 0], [2, 6, 4, 1], [3, 7, 5, 2], [4, 8, 6, 3], [5, 9, 7, 4]] := by decide +kernel
theorem lit_ne {p q : List (List ByteArray)} (h : p ≠ q) : litT p ≠ litT q := fun e => h (pgR_inj (e ▸ litT_R p) (litT_R q))
def bookL : List WRec := [⟨1, 10, 101, ⟨#[98, 105, 114, 100]⟩, 0⟩, ⟨1, 20, 102, ⟨#[115, 105, 115, 115, 111, 110]⟩, 0⟩, ⟨2, 300, 101, ⟨#[114, 97, 109, 115, 100, 101, 110]⟩, 0⟩, ⟨3, 400, 101, ⟨#[]⟩, 205⟩, ⟨2, 500, 205, ⟨#[100, 111, 108, 108, 111, 110, 100]⟩, 0⟩, ⟨4, 600, 102, ⟨#[]⟩, 0⟩]
def bookT : TV := .sl (recL bookL) 6 true
def marksC : TV := .sl [.str ⟨#[114, 97, 109, 115, 100, 101, 110]⟩, .str ⟨#[100, 111, 108, 108, 111, 110, 100]⟩] 2 true
def claimC : WCl := ⟨205, 550, ⟨#[98, 105, 114, 100]⟩, 10, [⟨#[114, 97, 109, 115, 100, 101, 110]⟩, ⟨#[100, 111, 108, 108, 111, 110, 100]⟩]⟩
def lateC : WCl := ⟨205, 450, ⟨#[98, 105, 114, 100]⟩, 10, [⟨#[114, 97, 109, 115, 100, 101, 110]⟩, ⟨#[100, 111, 108, 108, 111, 110, 100]⟩]⟩
theorem marksC_R : txR marksC [⟨#[114, 97, 109, 115, 100, 101, 110]⟩, ⟨#[100, 111, 108, 108, 111, 110, 100]⟩] := .inr ⟨true, rfl⟩
end Go.Ow
namespace Go.Proofs.YtdkboibnokipaaaDoor
open Go.RowKit Go.Pm Go.Ow
theorem wet_rest : restT wetP = .tup [pgV dryP, .int .i64 1, .int .i64 0] := by
 have h : restP wetP = dryP := by decide +kernel
 unfold restT
 rw [wet_read, if_neg (by simp), h]; rfl
theorem open_rest : restT openP = .tup [pgV openP, .int .i64 5, .int .i64 0] := by
 have h : restP openP = openP := by decide +kernel
 unfold restT
 rw [open_read, if_neg (by simp), h]; rfl
theorem open_ask : askT openP = .tup [.agg [.int .i64 0, .int .i64 0, .int .i64 1], .int .i64 1, .int .i64 0] := by
 have h : askTo (readG openP) (placesP openP) (placesP openP).length = ((0, 0, 1), 1) := by decide +kernel
 unfold askT
 rw [h, open_read]; rfl
theorem wet_text : (⟨(textP wetP).toArray⟩ : ByteArray) = wetS := by decide +kernel
theorem wet_suf : Lib.hasSuffix wetS.data.toList [10] = true := by decide +kernel
theorem wet_lines : linesP wetS = wetP := by decide +kernel
theorem oWet_c : PCalls Tryd.prog 44 [] (litT wetP) := by
 refine pcalls_by Tryd.mixes noSpec_ok (fn := Tryd.f44) Tryd.func44 rfl (by kernel_rfl) (by show 0 ≤ _; decide) ?_
 simp +decide -implicitDefEqProofs (maxSteps := 4000000) only [go_sem, Tryd.f44, litT, wetP, List.map_cons, List.map_nil, List.length_cons, List.length_nil]
theorem oOpen_c : PCalls Tryd.prog 59 [] (litT openP) := by
 refine pcalls_by Tryd.mixes noSpec_ok (fn := Tryd.f59) Tryd.func59 rfl (by kernel_rfl) (by show 0 ≤ _; decide) ?_
 simp +decide -implicitDefEqProofs (maxSteps := 4000000) only [go_sem, Tryd.f59, litT, openP, List.map_cons, List.map_nil, List.length_cons, List.length_nil]
theorem oBook_c : PCalls Tryd.prog 45 [] bookT := by
 refine pcalls_by Tryd.mixes noSpec_ok (fn := Tryd.f45) Tryd.func45 rfl (by kernel_rfl) (by show 0 ≤ _; decide) ?_
 simp +decide -implicitDefEqProofs (maxSteps := 4000000) only [go_sem, Tryd.f45, bookT, bookL, recL, recT, List.flatMap_cons, List.flatMap_nil]
theorem oClaim_c : PCalls Tryd.prog 46 [] (clT claimC marksC) := by
 refine pcalls_by Tryd.mixes noSpec_ok (fn := Tryd.f46) Tryd.func46 rfl (by kernel_rfl) (by show 0 ≤ _; decide) ?_
 simp +decide -implicitDefEqProofs (maxSteps := 4000000) only [go_sem, Tryd.f46, clT, claimC, marksC]
theorem bookT_R : bkT bookT bookL := .inr ⟨true, rfl⟩
theorem t_205 : traceP bookL 205 450 = (0, 0) := by decide +kernel
theorem t_101 : traceP bookL 101 450 = (0, 4) := by decide +kernel
theorem j_claim : judgeP bookL claimC = ((0, 0), 0) := by decide +kernel
theorem j_late : judgeP bookL lateC = ((4, 1), 0) := by decide +kernel
theorem or_ok {P : Program} {f : FuncId} {g h : List TV → Option TV} (hg : ∀ a r, g a = some r → PCalls P f a r) (hh : ∀ a r, h a = some r → PCalls P f a r) : ∀ a r, firstO (g a) (h a) = some r → PCalls P f a r := by
 intro a r e
 unfold firstO at e
 split at e
 ·rename_i x hx; cases e; exact hg _ _ hx
 ·exact hh _ _ e
def dryL : TV := .sl [.sl [.str ⟨#[49, 50]⟩, .str ⟨#[51, 53]⟩, .str ⟨#[52, 55]⟩] 3 true, .sl [.str ⟨#[56]⟩, .str ⟨#[50, 48]⟩, .str ⟨#[50, 56]⟩] 3 true, .sl [.str ⟨#[50, 48]⟩, .str ⟨#[53, 53]⟩, .str ⟨#[55, 53]⟩] 3 true] 3 true
theorem dryL_R : pgR dryL dryP := litT_R dryP
theorem pgV_ne {p q : List (List ByteArray)} (h : p ≠ q) : pgV p ≠ pgV q := fun e => h (pgR_inj (e ▸ pgV_R p) (pgV_R q))
noncomputable def spWo1 : Pm.Spec := (((((((((noSpec.one 44 (oneP [] (litT wetP))).one 59 (oneP [] (litT openP))).one 45 (oneP [] bookT)).one 46 (oneP [] (clT claimC marksC))).one 14 (fun a => firstO (oneP [litT wetP] (.tup [pgV dryP, .int .i64 1, .int .i64 0]) a) (oneP [litT openP] (.tup [pgV openP, .int .i64 5, .int .i64 0]) a))).one 19 (oneP [litT openP] (.tup [.agg [.int .i64 0, .int .i64 0, .int .i64 1], .int .i64 1, .int .i64 0]))).one 22 (oneP [litT wetP] (.tup [.str wetS, .int .i64 0]))).one 24 (oneP [.str wetS] (.tup [pgV wetP, .int .i64 0]))).one 26 (fun a => firstO (oneP [bookT, .int .i64 205, .int .i64 450] (.tup [.int .i64 0, .int .i64 0]) a) (oneP [bookT, .int .i64 101, .int .i64 450] (.tup [.int .i64 0, .int .i64 4]) a)))
noncomputable def spWo : Pm.Spec := ((spWo1.one 30 (fun a => firstO (oneP [bookT, clT claimC marksC] (.tup [.agg [.int .i64 0, .int .i64 0], .int .i64 0]) a) (oneP [bookT, clT lateC marksC] (.tup [.agg [.int .i64 4, .int .i64 1], .int .i64 0]) a))).one 16 (fun a => firstO (oneP [pgV dryP, dryL] (.bool true) a) (firstO (oneP [pgV openP, litT openP] (.bool true) a) (oneP [pgV wetP, litT wetP] (.bool true) a)))).gdt
theorem same_c {s t : TV} {p : List (List ByteArray)} (h1 : pgR s p) (h2 : pgR t p) (hb : p.length ≤ 5) (hb2 : ∀ l ∈ p, l.length ≤ 5) : PCalls Tryd.prog 16 [s, t] (.bool true) := by
 have := rSamePages_c h1 h2 (by omega) fun l hl => by have := hb2 l hl; omega
 rw [decide_eq_true rfl] at this
 exact this
theorem restore_of {s R : TV} {p : List (List ByteArray)} (hs : pgR s p) (hv : validB p = true) (h : restT p = R) : PCalls Tryd.prog 14 [s] R := h ▸ wRestore_c hs hv
theorem open_places : placesP openP = [(0, 0, 1), (0, 2, 1), (2, 0, 1), (2, 2, 1)] := by decide +kernel
theorem ask_open : PCalls Tryd.prog 19 [litT openP] (.tup [.agg [.int .i64 0, .int .i64 0, .int .i64 1], .int .i64 1, .int .i64 0]) := by
 have := wAsk4_c (litT_R openP) open_valid open_places (by decide) (by decide) (by decide) (by decide) (by decide) (by decide)
 rw [open_ask] at this
 exact this
theorem print_of {s : TV} {t : ByteArray} {p : List (List ByteArray)} (hs : pgR s p) (hv : validB p = true) (h : (⟨(textP p).toArray⟩ : ByteArray) = t) : PCalls Tryd.prog 22 [s] (.tup [.str t, .int .i64 0]) := h ▸ wPrint_c hs hv
theorem parse_of {s : ByteArray} {p : List (List ByteArray)} (h1 : s.size ≤ 65536) (h2 : Lib.hasSuffix s.data.toList [10] = true) (h : linesP s = p) (h3 : p.length ≤ 5 ∧ validB p = true) : PCalls Tryd.prog 24 [.str s] (.tup [pgV p, .int .i64 0]) := by
 have := wParse_c s h1 h2
 rw [h, if_pos h3] at this
 exact this
theorem trace_of {s : TV} {l : List WRec} (hs : bkT s l) (hL : l.length ≤ 40) {n d a b : Int} (h : traceP l n d = (a, b)) : PCalls Tryd.prog 26 [s, .int .i64 n, .int .i64 d] (.tup [.int .i64 a, .int .i64 b]) := by
 have := wTrace_c hs (by omega) n d
 rw [h] at this
 exact this
theorem judge_of {s m : TV} {l : List WRec} {c : WCl} (hs : bkT s l) (hL : l.length ≤ 40) (hm : txR m c.marks) (hM : c.marks.length ≤ 40) {a b e : Int} (h : judgeP l c = ((a, b), e)) : PCalls Tryd.prog 30 [s, clT c m] (.tup [.agg [.int .i64 a, .int .i64 b], .int .i64 e]) := by
 have := wJudge_c hs (by omega) hm (by omega)
 rw [h] at this
 exact this
theorem spWo_ok : SpecOk Tryd.prog spWo := by
 unfold spWo spWo1
 refine Spec.gdt_ok (Spec.one_ok (or_ok (oneP_ok ?_) (or_ok (oneP_ok ?_) (oneP_ok ?_))) (Spec.one_ok (or_ok (oneP_ok ?_) (oneP_ok ?_)) (Spec.one_ok (or_ok (oneP_ok ?_) (oneP_ok ?_)) (Spec.one_ok (oneP_ok ?_) (Spec.one_ok (oneP_ok ?_) (Spec.one_ok (oneP_ok ?_) (Spec.one_ok (or_ok (oneP_ok ?_) (oneP_ok ?_)) (Spec.one_ok (oneP_ok oClaim_c) (Spec.one_ok (oneP_ok oBook_c) (Spec.one_ok (oneP_ok oOpen_c) (Spec.one_ok (oneP_ok oWet_c) noSpec_ok)))))))))))
 ·exact same_c (pgV_R dryP) dryL_R (by decide) (by decide)
 ·exact same_c (pgV_R openP) (litT_R openP) (by decide) (by decide)
 ·exact same_c (pgV_R wetP) (litT_R wetP) (by decide) (by decide)
 ·exact judge_of bookT_R (by decide) marksC_R (by decide) j_claim
 ·exact judge_of bookT_R (by decide) marksC_R (by decide) j_late
 ·exact trace_of bookT_R (by decide) t_205
 ·exact trace_of bookT_R (by decide) t_101
 ·exact parse_of (by decide) wet_suf wet_lines (by decide)
 ·exact print_of (litT_R wetP) wet_valid wet_text
 ·exact ask_open
 ·exact restore_of (litT_R wetP) wet_valid wet_rest
 ·exact restore_of (litT_R openP) open_valid open_rest
theorem oWorks_c : PCalls Tryd.prog 21 [] (.bool true) := by
 have n1 : ¬ litT openP = litT wetP := lit_ne (by decide)
 have n2 : ¬ pgV openP = pgV dryP := pgV_ne (by decide)
 have n3 : ¬ pgV wetP = pgV dryP := pgV_ne (by decide)
 have n4 : ¬ pgV wetP = pgV openP := pgV_ne (by decide)
 have e1 : clT claimC marksC = .agg [.int .i64 205, .int .i64 550, .str ⟨#[98, 105, 114, 100]⟩, .int .i64 10, marksC] := rfl
 have e2 : clT lateC marksC = .agg [.int .i64 205, .int .i64 450, .str ⟨#[98, 105, 114, 100]⟩, .int .i64 10, marksC] := rfl
 have hw : (wetS.toList == (⟨#[49, 50, 32, 63, 53, 32, 52, 55, 10, 56, 32, 50, 48, 32, 50, 63, 10, 50, 63, 32, 53, 53, 32, 55, 53, 10]⟩ : ByteArray).toList) = true := (beqS _ _).trans (decide_eq_true rfl)
 refine pcalls_by Tryd.mixes spWo_ok (fn := Tryd.f21) Tryd.func21 rfl (by kernel_rfl) (by show 0 ≤ _; decide) ?_
 simp +decide -implicitDefEqProofs (maxSteps := 4000000) only [go_sem, Tryd.f21, spWo, spWo1, n1, n2, n3, n4, e1, e2, dryL, hw]
end Go.Proofs.YtdkboibnokipaaaDoor

namespace Go.Ow
open Go Go.RowKit Go.Pm
def asgD : List Pl → List Int → Dg
 | a :: L, d :: g => updD (asgD L g) a d
 | _, _ => fun _ => none
def ovr (D : Dg) (M : List Pl) (g : List Int) : Dg := fun b => match asgD M g b with
 | some d => some d
 | none => D b
end Go.Ow

namespace Go.Ow
open Go Go.RowKit Go.Pm
abbrev Pg := List (List ByteArray)
end Go.Ow

namespace Go.Proofs.YtdkboibnokipaaaDoor
open Go Go.RowKit Go.Pm Go.Ow
def parE (s : ByteArray) : Int := if s.size ≤ 65536 then (if Lib.hasSuffix s.data.toList [10] = true ∧ (linesP s).length ≤ 5 ∧ validB (linesP s) = true then 0 else 5) else 2
def parT (s : ByteArray) : TV := .tup [if parE s = 0 then pgV (linesP s) else .nilSl, .int .i64 (parE s)]
theorem wParseA_c (s : ByteArray) : PCalls Tryd.prog 24 [.str s] (parT s) := by
 unfold parT
 by_cases h : s.size ≤ 65536
 ·by_cases h2 : Lib.hasSuffix s.data.toList [10] = true
  ·have := wParse_c s h h2
   by_cases h3 : (linesP s).length ≤ 5 ∧ validB (linesP s) = true
   ·rw [if_pos h3] at this
    have e : parE s = 0 := by unfold parE; rw [if_pos h, if_pos ⟨h2, h3⟩]
    rw [e, if_pos rfl]
    exact this
   ·rw [if_neg h3] at this
    have e : parE s = 5 := by unfold parE; rw [if_pos h, if_neg fun e => h3 e.2]
    rw [e, if_neg (by decide)]
    exact this
  ·have := wParseS_c s h (by simpa using h2)
   have e : parE s = 5 := by unfold parE; rw [if_pos h, if_neg fun e => h2 e.1]
   rw [e, if_neg (by decide)]
   exact this
 ·have := wParseL_c s h
  have e : parE s = 2 := by unfold parE; rw [if_neg h]
  rw [e, if_neg (by decide)]
  exact this
def prtT (p : List (List ByteArray)) : TV := if validB p = true then .tup [.str ⟨(textP p).toArray⟩, .int .i64 0] else .tup [.str ⟨#[]⟩, .int .i64 90]
theorem wPrintA_c {s : TV} {p : List (List ByteArray)} (hs : pgR s p) : PCalls Tryd.prog 22 [s] (prtT p) := by
 unfold prtT
 by_cases h : validB p = true
 ·rw [if_pos h]; exact wPrint_c hs h
 ·rw [if_neg h]; exact wPrintN_c hs (by simpa using h)
end Go.Proofs.YtdkboibnokipaaaDoor

namespace Go.Ow
open Go Go.Pm
end Go.Ow

namespace Go.Proofs.YtdkboibnokipaaaDoor
open Go.RowKit Go.Pm Go.Ow
end Go.Proofs.YtdkboibnokipaaaDoor

namespace Go.Ow
open Go Go.RowKit Go.Pm
end Go.Ow
namespace Go.Proofs.YtdkboibnokipaaaDoor
open Go.RowKit Go.Pm Go.Ow
end Go.Proofs.YtdkboibnokipaaaDoor

namespace Go.Ow
open Go Go.RowKit Go.Pm
end Go.Ow
namespace Go.Proofs.YtdkboibnokipaaaDoor
open Go.RowKit Go.Pm Go.Ow
end Go.Proofs.YtdkboibnokipaaaDoor

namespace Go.Proofs.YtdkboibnokipaaaDoor
open Go.RowKit Go.Pm Go.Ow
end Go.Proofs.YtdkboibnokipaaaDoor

namespace Go.Ow
open Go Go.RowKit Go.Pm
end Go.Ow
namespace Go.Proofs.YtdkboibnokipaaaDoor
open Go.RowKit Go.Pm Go.Ow
end Go.Proofs.YtdkboibnokipaaaDoor

namespace Go.Proofs.YtdkboibnokipaaaDoor
open Go.RowKit Go.Pm Go.Ow
section
variable (g : FuncId) (xs : List TV) (ps : List PV) (hl : List PO) (Y : YS) (t : TypeId)
end
end Go.Proofs.YtdkboibnokipaaaDoor

namespace Go.Proofs.YtdkboibnokipaaaDoor
open Go.RowKit Go.Pm Go.Ow
end Go.Proofs.YtdkboibnokipaaaDoor

namespace Go.Ow
open Go Go.RowKit Go.Pm
end Go.Ow

namespace Go.Proofs.YtdkboibnokipaaaDoor
open Go.RowKit Go.Pm Go.Ow
end Go.Proofs.YtdkboibnokipaaaDoor

namespace Go.Proofs.YtdkboibnokipaaaDoor
open Go.RowKit Go.Pm Go.Ow
end Go.Proofs.YtdkboibnokipaaaDoor

namespace Go.Ow
open Go Go.RowKit Go.Pm
end Go.Ow
namespace Go.Proofs.YtdkboibnokipaaaDoor
open Go.RowKit Go.Pm Go.Ow
end Go.Proofs.YtdkboibnokipaaaDoor

namespace Go.Ow
open Go Go.RowKit Go.Pm
end Go.Ow

namespace Go.Proofs.YtdkboibnokipaaaDoor
open Go.RowKit Go.Pm Go.Ow
end Go.Proofs.YtdkboibnokipaaaDoor

namespace Go.Proofs.YtdkboibnokipaaaDoor
open Go.RowKit Go.Pm Go.Ow
end Go.Proofs.YtdkboibnokipaaaDoor

namespace Go.Proofs.YtdkboibnokipaaaDoor
open Go.RowKit Go.Pm Go.Ow
end Go.Proofs.YtdkboibnokipaaaDoor

namespace Go.Proofs.YtdkboibnokipaaaDoor
open Go.RowKit Go.Pm Go.Ow
theorem wk_glob {w : World} {l : List (String × DataW Unit)} (hm : ("octant/wreck.kinds", Rows.laid_octant_wreck_kinds) ∈ l) (h : laidMetH Tryd.prog l w) : GlobOk (allF w) := by
 have hf := h.funcs (n := "octant/wreck.kinds") (d := .agg [.iface "func" (.lit (.string [40, 111, 99, 116, 97, 110, 116, 47, 119, 114, 101, 99, 107, 46, 98, 111, 111, 107, 41, 46, 109, 97, 100, 101])), .iface "func" (.lit (.string [40, 111, 99, 116, 97, 110, 116, 47, 119, 114, 101, 99, 107, 46, 98, 111, 111, 107, 41, 46, 109, 101, 110, 100, 101, 100])), .iface "func" (.lit (.string [40, 111, 99, 116, 97, 110, 116, 47, 119, 114, 101, 99, 107, 46, 98, 111, 111, 107, 41, 46, 97, 103, 97, 105, 110])), .iface "func" (.lit (.string [40, 111, 99, 116, 97, 110, 116, 47, 119, 114, 101, 99, 107, 46, 98, 111, 111, 107, 41, 46, 108, 111, 115, 116]))]) hm
 obtain ⟨g, t, cs, fuel, p, hg, ht, hv, hd⟩ := hf
 have hg0 : Tryd.prog.globalNamed "octant/wreck.kinds" = some 0 := by kernel_rfl
 have ht0 : (Tryd.prog.globals[0]?).map (·.type) = some 129 := by kernel_rfl
 obtain rfl := Option.some.inj (hg0.symm.trans hg)
 obtain rfl := Option.some.inj (ht0.symm.trans ht)
 have hd' : DataW.trod (funcToken Tryd.prog) Tryd.prog w 0 (fun _ => true) true fuel 129 cs.toList = some (.agg [.held [40, 111, 99, 116, 97, 110, 116, 47, 119, 114, 101, 99, 107, 46, 98, 111, 111, 107, 41, 46, 109, 97, 100, 101], .held [40, 111, 99, 116, 97, 110, 116, 47, 119, 114, 101, 99, 107, 46, 98, 111, 111, 107, 41, 46, 109, 101, 110, 100, 101, 100], .held [40, 111, 99, 116, 97, 110, 116, 47, 119, 114, 101, 99, 107, 46, 98, 111, 111, 107, 41, 46, 97, 103, 97, 105, 110], .held [40, 111, 99, 116, 97, 110, 116, 47, 119, 114, 101, 99, 107, 46, 98, 111, 111, 107, 41, 46, 108, 111, 115, 116]], p) := hd
 obtain ⟨xs, m, _, ex, hcl, hl, hel⟩ := DataW.trod_array Tryd.underlying129 hd'
 have hce : Tryd.prog.cellsOf 128 = 1 := by kernel_rfl
 have hct : Tryd.prog.cellsOf 129 = 4 := by kernel_rfl
 rw [hct] at hcl
 simp only [Prod.mk.injEq, DataW.agg.injEq] at ex
 obtain ⟨ex, _⟩ := ex
 match xs, hl, ex, hel with
 | [x0, x1, x2, x3], _, ex, hel =>
  simp only [List.map_cons, List.map_nil, List.cons.injEq, and_true] at ex
  obtain ⟨y0, y1, y2, y3⟩ := ex
  obtain ⟨x0a, x0b⟩ := x0
  obtain ⟨x1a, x1b⟩ := x1
  obtain ⟨x2a, x2b⟩ := x2
  obtain ⟨x3a, x3b⟩ := x3
  simp only at y0 y1 y2 y3
  subst y0; subst y1; subst y2; subst y3
  match hcc : cs.toList, hcl with
  | [v0, v1, v2, v3], _ =>
   rw [hcc, hce] at hel
   have h0 := hel 0 (by omega)
   have h1 := hel 1 (by omega)
   have h2 := hel 2 (by omega)
   have h3 := hel 3 (by omega)
   obtain rfl := func_of_trod (f0 := 163) Tryd.underlying128 (by kernel_rfl) h0
   obtain rfl := func_of_trod (f0 := 164) Tryd.underlying128 (by kernel_rfl) h1
   obtain rfl := func_of_trod (f0 := 160) Tryd.underlying128 (by kernel_rfl) h2
   obtain rfl := func_of_trod (f0 := 165) Tryd.underlying128 (by kernel_rfl) h3
   have hcell : ∀ i, w.cell? ⟨0, i, none⟩ = [Value.func (.func 163) #[] #[], .func (.func 164) #[] #[], .func (.func 160) #[] #[], .func (.func 165) #[] #[]][i]? := fun i => by
    have := World.var?_cell hg hv i
    rw [this, ← Array.getElem?_toList, hcc]
   intro g cs hc
   have hc2 : globs.lookup g = some cs := hc
   by_cases hg1 : g = 0
   ·subst hg1
    have e : cs = [.fn 163 [] [], .fn 164 [] [], .fn 160 [] [], .fn 165 [] []] := (Option.some.inj (show some _ = some cs from hc)).symm
    rw [e]
    refine .cptr _ _ [Value.func (.func 163) #[] #[], .func (.func 164) #[] #[], .func (.func 160) #[] #[], .func (.func 165) #[] #[]] rfl (fun i u hi => ⟨?_, ?_⟩) (fun i c u hi hj => ?_)
    ·rw [add_plain, Nat.zero_add]
     show w.cell? _ = some u
     rw [hcell]; exact hi
    ·match i, hi with
     | 0, hi => cases hi; rfl
     | 1, hi => cases hi; rfl
     | 2, hi => cases hi; rfl
     | 3, hi => cases hi; rfl
    ·match i, hi, hj with
     | 0, hi, hj => cases hi; cases hj; exact .fn _ [] [] [] [] rfl (fun i c u h => by cases h) rfl (fun i c u h => by cases h)
     | 1, hi, hj => cases hi; cases hj; exact .fn _ [] [] [] [] rfl (fun i c u h => by cases h) rfl (fun i c u h => by cases h)
     | 2, hi, hj => cases hi; cases hj; exact .fn _ [] [] [] [] rfl (fun i c u h => by cases h) rfl (fun i c u h => by cases h)
     | 3, hi, hj => cases hi; cases hj; exact .fn _ [] [] [] [] rfl (fun i c u h => by cases h) rfl (fun i c u h => by cases h)
   ·exfalso
    simp [globs, List.lookup] at hc2
    split at hc2 <;> simp_all
noncomputable def wk_start (os : Os) : World := (World.doorLaid Tryd.prog 24 os).layVars Tryd.prog [("unicode/utf8.acceptRanges", Rows.laid_unicode_utf8_acceptRanges), ("unicode/utf8.first", Rows.laid_unicode_utf8_first)]
theorem wk_start_os (os : Os) : (wk_start os).os = os := World.layVars_os _ _ _
theorem wk_met (os : Os) (args : Array Value) : laidMetH Tryd.prog [("unicode/utf8.acceptRanges", Rows.laid_unicode_utf8_acceptRanges), ("octant/wreck.kinds", Rows.laid_octant_wreck_kinds), ("unicode/utf8.first", Rows.laid_unicode_utf8_first)] ((wk_start os).forCall (fun _ _ => 0) ⟨#[], args, []⟩).memory := by
 refine laidMetH_of_parts3 (fuel := 8) ?_ (by kernel_rfl) (by kernel_rfl)
 have e0 : ([("unicode/utf8.acceptRanges", Rows.laid_unicode_utf8_acceptRanges), ("octant/wreck.kinds", Rows.laid_octant_wreck_kinds), ("unicode/utf8.first", Rows.laid_unicode_utf8_first)] : List (String × DataW Unit)).filter (fun x => x.2.handleName?.isNone) = [("unicode/utf8.acceptRanges", Rows.laid_unicode_utf8_acceptRanges), ("unicode/utf8.first", Rows.laid_unicode_utf8_first)] := by kernel_rfl
 rw [e0]
 have e1 : ([("unicode/utf8.acceptRanges", Rows.laid_unicode_utf8_acceptRanges), ("unicode/utf8.first", Rows.laid_unicode_utf8_first)] : List (String × DataW Unit)).filter (fun x => ["unicode/utf8.acceptRanges", "unicode/utf8.first"].contains x.1) = [("unicode/utf8.acceptRanges", Rows.laid_unicode_utf8_acceptRanges), ("unicode/utf8.first", Rows.laid_unicode_utf8_first)] := by kernel_rfl
 have e2 : ([("unicode/utf8.acceptRanges", Rows.laid_unicode_utf8_acceptRanges), ("unicode/utf8.first", Rows.laid_unicode_utf8_first)] : List (String × DataW Unit)).filter (fun x => !["unicode/utf8.acceptRanges", "unicode/utf8.first"].contains x.1) = [] := by kernel_rfl
 have h : laidMet Tryd.prog [("unicode/utf8.acceptRanges", Rows.laid_unicode_utf8_acceptRanges), ("unicode/utf8.first", Rows.laid_unicode_utf8_first)] (wk_start os) := laidMet_layVars (w0 := World.doorLaid Tryd.prog 24 os) ["unicode/utf8.acceptRanges", "unicode/utf8.first"] [] (by rw [e1]; rfl) (by rw [e1]; kernel_rfl) (by rw [e1]; kernel_rfl) (by rw [e2]; exact LaidIn.none)
 exact h.of_heap (by simp [World.memory, World.forCall, Input.heap])
theorem wk_shaped (os : Os) (args : Array Value) : ((wk_start os).forCall (fun _ _ => 0) ⟨#[], args, []⟩).Shaped Tryd.prog := World.shaped_of_ZipB (by kernel_rfl) (by kernel_rfl)
end Go.Proofs.YtdkboibnokipaaaDoor

namespace Go.Pm
open Go Go.RowKit
noncomputable def evW (P : Program) (base : Spec) (N : Nat) (skip : FuncId → Bool) : Nat → Spec
 | 0 => base
 | k + 1 => { base with
     p := fun f al => match base.p f al with | some r => some r | none => bif skip f then none else evP P (evW P base N skip k) N f al
     h := fun f al hl => match base.h f al hl with | some r => some r | none => evH P (evW P base N skip k) N f al hl }
theorem evW_ok {P : Program} (hm : P.follows .mixedOrders = true) {base : Spec} (hb : SpecOk P base) {N : Nat} {skip : FuncId → Bool} : ∀ k, SpecOk P (evW P base N skip k)
 | 0 => hb
 | k + 1 => ⟨fun f al r h => by
     simp only [evW] at h
     split at h
     ·rename_i r' h'; cases h; exact hb.1 _ _ _ h'
     ·cases hs : skip f with
      | true => rw [hs] at h; cases h
      | false => rw [hs] at h; exact evP_ok hm (evW_ok hm hb k) h, fun f al hl v hl' h => by
     simp only [evW] at h
     split at h
     ·rename_i r' h'; cases h; exact hb.2.1 _ _ _ _ _ h'
     ·exact evH_ok hm (evW_ok hm hb k) h, fun Y f al hl v hl' h => by
     simp only [evW] at h; exact hb.2.2.1 _ _ _ _ _ _ h, fun f al hl V hl' h => by
     simp only [evW] at h; exact hb.2.2.2 _ _ _ _ _ h⟩
end Go.Pm
namespace Go.Ow
open Go Go.RowKit Go.Pm
def strsOf : List TV → Option (List ByteArray)
 | [] => some []
 | .str s :: r => match strsOf r with
  | some l => some (s :: l)
  | none => none
 | _ => none
theorem strsOf_ok : ∀ {cs : List TV} {l : List ByteArray}, strsOf cs = some l → cs = l.map .str
 | [], l, h => by cases h; rfl
 | c :: r, l, h => by
  unfold strsOf at h
  split at h
  ·rename_i he; cases he
  ·rename_i s r' he
   cases he
   split at h
   ·rename_i l' hl
    cases h
    rw [strsOf_ok hl]; rfl
   ·cases h
  ·cases h
def txOf : TV → Option (List ByteArray)
 | .nilSl => some []
 | .sl cs n _ => match strsOf cs with
  | some l => bif Nat.beq l.length n then some l else none
  | none => none
 | _ => none
theorem txOf_R {t : TV} {l : List ByteArray} (h : txOf t = some l) : txR t l := by
 unfold txOf at h
 split at h
 ·cases h; exact .inl ⟨rfl, rfl⟩
 ·rename_i cs n f
  split at h
  ·rename_i l' hl
   cases hb : Nat.beq l'.length n with
   | false => rw [hb] at h; cases h
   | true =>
    rw [hb] at h
    cases h
    have e := Nat.eq_of_beq_eq_true hb
    rw [strsOf_ok hl, ← e]
    exact .inr ⟨f, rfl⟩
  ·cases h
 ·cases h
def rowsOf : List TV → Option (List (List ByteArray))
 | [] => some []
 | t :: r => match txOf t, rowsOf r with
  | some l, some p => some (l :: p)
  | _, _ => none
theorem rowsOf_ok : ∀ {ts : List TV} {p : List (List ByteArray)}, rowsOf ts = some p → ts.length = p.length ∧ ∀ (k : Nat) (r : List ByteArray) (t : TV), p[k]? = some r → ts[k]? = some t → txR t r
 | [], p, h => by cases h; exact ⟨rfl, fun k r t hr => by simp at hr⟩
 | t :: ts, p, h => by
  unfold rowsOf at h
  split at h
  ·rename_i l q hl hq
   cases h
   obtain ⟨h1, h2⟩ := rowsOf_ok hq
   refine ⟨by rw [List.length_cons, List.length_cons, h1], fun k r u hr hu => ?_⟩
   cases k with
   | zero => cases hr; cases hu; exact txOf_R hl
   | succ k => exact h2 k r u hr hu
  ·cases h
def pgOf : TV → Option (List (List ByteArray))
 | .nilSl => some []
 | .sl ts n _ => match rowsOf ts with
  | some p => bif Nat.beq p.length n then some p else none
  | none => none
 | _ => none
theorem pgOf_R {t : TV} {p : List (List ByteArray)} (h : pgOf t = some p) : pgR t p := by
 unfold pgOf at h
 split at h
 ·cases h; exact .inl ⟨rfl, rfl⟩
 ·rename_i ts n f
  split at h
  ·rename_i q hq
   cases hb : Nat.beq q.length n with
   | false => rw [hb] at h; cases h
   | true =>
    rw [hb] at h
    cases h
    have e := Nat.eq_of_beq_eq_true hb
    obtain ⟨h1, h2⟩ := rowsOf_ok hq
    rw [← e]
    exact .inr ⟨ts, f, rfl, h1, h2⟩
  ·cases h
 ·cases h
def recsOf : List TV → Option (List WRec)
 | [] => some []
 | .int .i64 a :: .int .i64 b :: .int .i64 c :: .str s :: .int .i64 d :: r => match recsOf r with
  | some l => some (⟨a, b, c, s, d⟩ :: l)
  | none => none
 | _ => none
theorem recsOf_ok (cs : List TV) : ∀ l : List WRec, recsOf cs = some l → cs = recL l := by
 fun_induction recsOf cs with
 | case1 => intro l h; cases h; rfl
 | case2 a b c s d r l' hl ih =>
  intro l h
  cases h
  rw [ih l' hl]
  rfl
 | case3 => intro l h; cases h
 | case4 => intro l h; cases h
def bkOf : TV → Option (List WRec)
 | .nilSl => some []
 | .sl cs n _ => match recsOf cs with
  | some l => bif Nat.beq l.length n && Nat.ble l.length 1000 then some l else none
  | none => none
 | _ => none
end Go.Ow
namespace Go.Proofs.YtdkboibnokipaaaDoor
open Go.RowKit Go.Pm Go.Ow
theorem bkOf_R {t : TV} {l : List WRec} (h : bkOf t = some l) : bkT t l ∧ l.length ≤ 1000 := by
 unfold bkOf at h
 split at h
 ·cases h; exact ⟨.inl ⟨rfl, rfl⟩, by simp⟩
 ·rename_i cs n f
  split at h
  ·rename_i l' hl
   cases hb : Nat.beq l'.length n && Nat.ble l'.length 1000 with
   | false => rw [hb] at h; cases h
   | true =>
    rw [hb] at h
    cases h
    rw [Bool.and_eq_true] at hb
    have e := Nat.eq_of_beq_eq_true hb.1
    rw [recsOf_ok _ _ hl, ← e]
    exact ⟨.inr ⟨f, rfl⟩, Nat.le_of_ble_eq_true hb.2⟩
  ·cases h
 ·cases h
def knPage (g : List (List ByteArray) → TV) : List TV → Option TV
 | [t] => match pgOf t with
  | some p => some (g p)
  | none => none
 | _ => none
theorem knPage_ok {f : FuncId} {g : List (List ByteArray) → TV} (h : ∀ s p, pgR s p → PCalls Tryd.prog f [s] (g p)) : ∀ a r, knPage g a = some r → PCalls Tryd.prog f a r := by
 intro a r e
 unfold knPage at e
 split at e
 ·split at e
  ·rename_i p hp
   cases e
   exact h _ _ (pgOf_R hp)
  ·cases e
 ·cases e
def knRest : List (List ByteArray) → TV := fun p => if validB p = true then restT p else .tup [.nilSl, .int .i64 0, .int .i64 90]
def knAsk : List (List ByteArray) → TV := fun p => if validB p = true then askT p else .tup [.agg [.int .i64 0, .int .i64 0, .int .i64 0], .int .i64 0, .int .i64 90]
def knChk : List (List ByteArray) → TV := fun p => .int .i64 (if validB p = true then 0 else 90)
def knParse : List TV → Option TV
 | [.str s] => some (parT s)
 | _ => none
def knBook : List TV → Option TV
 | [t] => match bkOf t with
  | some l => some (.int .i64 (if bookB l then 0 else 92))
  | none => none
 | _ => none
def knTrace : List TV → Option TV
 | [t, .int .i64 a, .int .i64 b] => match bkOf t with
  | some l => some (.tup [.int .i64 (traceP l a b).1, .int .i64 (traceP l a b).2])
  | none => none
 | _ => none
def knJudge : List TV → Option TV
 | [t, .agg [.int .i64 n, .int .i64 d, .str mk, .int .i64 md, ms]] => match bkOf t, txOf ms with
  | some l, some m => bif Nat.ble m.length 1000 then some (judT (judgeP l ⟨n, d, mk, md, m⟩)) else none
  | _, _ => none
 | _ => none
def knP (f : FuncId) (al : List TV) : Option TV :=
 if f = 14 then knPage knRest al else
 if f = 19 then knPage knAsk al else
 if f = 22 then knPage prtT al else
 if f = 17 then knPage knChk al else
 if f = 24 then knParse al else
 if f = 28 then knBook al else
 if f = 26 then knTrace al else
 if f = 30 then knJudge al else
 if f = 21 then (match al with | [] => some (.bool true) | _ => none) else none
theorem knP_ok : ∀ f al r, knP f al = some r → PCalls Tryd.prog f al r := by
 intro f al r h
 unfold knP at h
 split at h
 ·rename_i e; subst e
  refine knPage_ok (fun s p hp => ?_) _ _ h
  unfold knRest
  by_cases hv : validB p = true
  ·rw [if_pos hv]; exact wRestore_c hp hv
  ·rw [if_neg hv]; exact wRestoreN_c hp (by simpa using hv)
 split at h
 ·rename_i e; subst e
  refine knPage_ok (fun s p hp => ?_) _ _ h
  unfold knAsk
  by_cases hv : validB p = true
  ·rw [if_pos hv]; exact wAsk_c hp hv
  ·rw [if_neg hv]; exact wAskN_c hp (by simpa using hv)
 split at h
 ·rename_i e; subst e
  exact knPage_ok (fun s p hp => wPrintA_c hp) _ _ h
 split at h
 ·rename_i e; subst e
  exact knPage_ok (fun s p hp => wCheckPage_c hp) _ _ h
 split at h
 ·rename_i e; subst e
  unfold knParse at h
  split at h
  ·cases h; exact wParseA_c _
  ·cases h
 split at h
 ·rename_i e; subst e
  unfold knBook at h
  split at h
  ·split at h
   ·rename_i l hl
    cases h
    obtain ⟨h1, h2⟩ := bkOf_R hl
    exact wCheckBook_c h1 (by omega)
   ·cases h
  ·cases h
 split at h
 ·rename_i e; subst e
  unfold knTrace at h
  split at h
  ·split at h
   ·rename_i l hl
    cases h
    obtain ⟨h1, h2⟩ := bkOf_R hl
    exact wTrace_c h1 (by omega) _ _
   ·cases h
  ·cases h
 split at h
 ·rename_i e; subst e
  unfold knJudge at h
  split at h
  ·rename_i t n d mk md ms
   split at h
   ·rename_i l m hl hm
    cases hb : Nat.ble m.length 1000 with
    | false => rw [hb] at h; cases h
    | true =>
     rw [hb] at h
     cases h
     obtain ⟨h1, h2⟩ := bkOf_R hl
     have := Nat.le_of_ble_eq_true hb
     exact wJudge_c (c := ⟨n, d, mk, md, m⟩) h1 (by omega) (txOf_R hm) (by show m.length ≤ _; omega)
   ·cases h
  ·cases h
 split at h
 ·rename_i e; subst e
  split at h
  ·cases h; exact oWorks_c
  ·cases h
 ·cases h
noncomputable def spKn : Pm.Spec where
 p := knP
 h := fun _ _ _ => none
 fz := fun _ => false
 mu := fun t => t == 41 || (t == 22 || t == 75)
 nf := fun t => t == 22
 fr := fun f => f == 14 || (f == 19 || (f == 17 || (f == 30 || f == 16)))
 gd := true
theorem spKn_ok : SpecOk Tryd.prog spKn := ⟨knP_ok, fun f al hl v hl' h => (by cases h), fun Y f al hl v hl' h => (by cases h), fun f al hl V hl' h => (by cases h)⟩
theorem WreckKnown_e : evP Tryd.prog (evW Tryd.prog spKn 60 (fun f => f == 44) 3) 60 12 [] = some (.bool true) := by kernel_rfl
theorem WreckKnown_c : PCalls Tryd.prog 12 [] (.bool true) := evP_ok Tryd.mixes (evW_ok Tryd.mixes spKn_ok 3) WreckKnown_e
end Go.Proofs.YtdkboibnokipaaaDoor
