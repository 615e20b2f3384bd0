/- What the claim leans on, text 6. -/
import Derived.WalkKit
import Derived.BigCall
import Derived.Test.YtdkboibnokipaaaDoorC5
set_option linter.unusedSimpArgs false
set_option linter.unusedVariables false

/- Part W1. -/
namespace Go.Proofs.YtdkboibnokipaaaDoor
open Go.RowKit Go.Pm Go.Ow
set_option maxRecDepth 100000
set_option linter.unusedVariables false
set_option maxHeartbeats 8000000
open Classical in
noncomputable def wkOp (s : TV) (p : List (List ByteArray)) : List PV → List PO → Option (PV × List PO)
 | [.t t], [] => if t = s then some (.cons true (pageV s (placesP p) 1) (.cons true (.t (.int .i64 0)) (.nil true)), [.box [.junk, .junk, .junk], .mp 84 (mapD fun _ => none)]) else none
 | _, _ => none
theorem wkOp_ok {s : TV} {p : List (List ByteArray)} (hs : pgR s p) (hv : validB p = true) : ∀ xs hl v hl', wkOp s p xs hl = some (v, hl') → HCalls Tryd.prog 51 xs (getL hl) v (getL hl') := by
 intro xs hl v hl' e
 unfold wkOp at e
 split at e
 ·split at e
  ·rename_i hc
   subst hc
   cases e
   exact wOpened_c hs hv
  ·cases e
 ·cases e
open Classical in
@[go_sem] theorem wkOp_eq (s : TV) (p : List (List ByteArray)) : wkOp s p [.t s] [] = some (.cons true (.cons false (.t s) (.cons false (.t (lostT (placesP p))) (.cons false (.mapr 1) (.nil false)))) (.cons true (.t (.int .i64 0)) (.nil true)), [.box [.junk, .junk, .junk], .mp 84 (mapD fun _ => none)]) := by
 unfold wkOp pageV pageW
 simp only [if_true]
noncomputable def wkRd : List PV → List PO → Option (PV × List PO)
 | [.cons false (.t s) (.cons false (.t lt) (.cons false (.mapr 0) (.nil false)))], [.mp t m] => if t = 84 then some (.fnc 82 [1], [.mp t m, .box [.t s, .t lt, .mapr 0]]) else none
 | _, _ => none
theorem wkRd_ok : ∀ xs hl v hl', wkRd xs hl = some (v, hl') → HCalls Tryd.prog 52 xs (getL hl) v (getL hl') := by
 intro xs hl v hl' e
 unfold wkRd at e
 split at e
 ·split at e
  ·rename_i hc
   subst hc
   cases e
   exact wReadings_c _ _ _
  ·cases e
 ·cases e
@[go_sem] theorem wkRd_eq (s lt : TV) (m : TV → Option TV) : wkRd [.cons false (.t s) (.cons false (.t lt) (.cons false (.mapr 0) (.nil false)))] [.mp 84 m] = some (.fnc 82 [1], [.mp 84 m, .box [.t s, .t lt, .mapr 0]]) := by
 unfold wkRd
 simp only [if_true]
def onlyT (d : Int) : TV := .agg [.bool ((0 : Int) == d), .bool ((1 : Int) == d), .bool ((2 : Int) == d), .bool ((3 : Int) == d), .bool ((4 : Int) == d), .bool ((5 : Int) == d), .bool ((6 : Int) == d), .bool ((7 : Int) == d), .bool ((8 : Int) == d), .bool ((9 : Int) == d)]
theorem wOnly_c (d : Nat) (hd : d < 10) : PCalls Tryd.prog 53 [.int .i64 d] (onlyT d) := by
 rcases (by omega : d = 0 ∨ d = 1 ∨ d = 2 ∨ d = 3 ∨ d = 4 ∨ d = 5 ∨ d = 6 ∨ d = 7 ∨ d = 8 ∨ d = 9) with rfl | rfl | rfl | rfl | rfl | rfl | rfl | rfl | rfl | rfl
 all_goals
  refine pcalls_by Tryd.mixes noSpec_ok (fn := Tryd.f53) Tryd.func53 rfl (by kernel_rfl) (by show 1 ≤ _; decide) ?_
  simp (decide := true) (implicitDefEqProofs := false) (maxSteps := 4000000) only [go_sem, Tryd.f53, onlyT]
  first | done | trace_state
noncomputable def wkOnly : List TV → Option TV
 | [.int .i64 d] => if 0 ≤ d ∧ d ≤ 9 then some (onlyT d) else none
 | _ => none
theorem wkOnly_ok : ∀ xs r, wkOnly xs = some r → PCalls Tryd.prog 53 xs r := by
 intro xs r h
 unfold wkOnly at h
 split at h
 ·rename_i d
  split at h
  ·rename_i hc
   cases h
   have := wOnly_c d.toNat (by omega)
   rw [show ((d.toNat : Nat) : Int) = d by omega] at this
   exact this
  ·cases h
 ·cases h
attribute [go_sem] wkOnly
noncomputable def spW1 (s : TV) (p : List (List ByteArray)) : Pm.Spec := { ((noSpec.one 53 wkOnly).oneH 51 (wkOp s p)).oneH 52 wkRd with mu := fun t => t == 89 || t == 96 }
theorem spW1_ok {s : TV} {p : List (List ByteArray)} (hs : pgR s p) (hv : validB p = true) : SpecOk Tryd.prog (spW1 s p) := Spec.oneH_ok wkRd_ok (Spec.oneH_ok (wkOp_ok hs hv) (Spec.one_ok wkOnly_ok noSpec_ok))
section
variable (s : TV) (p : List (List ByteArray)) (g : FuncId) (xs : List TV) (ps : List PV) (hl : List PO) (Y : YS) (t : TypeId)
@[go_sem] theorem spW1_p : (spW1 s p).p g xs = if g = 53 then wkOnly xs else none := rfl
@[go_sem] theorem spW1_h : (spW1 s p).h g ps hl = if g = 52 then wkRd ps hl else if g = 51 then wkOp s p ps hl else none := rfl
@[go_sem] theorem spW1_y : (spW1 s p).y Y g ps hl = none := rfl
@[go_sem] theorem spW1_pn : (spW1 s p).pn g ps hl = none := rfl
@[go_sem] theorem spW1_fz : (spW1 s p).fz g = false := rfl
@[go_sem] theorem spW1_fr : (spW1 s p).fr g = false := rfl
@[go_sem] theorem spW1_yf : (spW1 s p).yf g = false := rfl
@[go_sem] theorem spW1_gd : (spW1 s p).gd = false := rfl
@[go_sem] theorem spW1_nf : (spW1 s p).nf t = false := rfl
@[go_sem] theorem spW1_mu : (spW1 s p).mu t = (t == 89 || t == 96) := rfl
end
theorem cellsW_ts (l : List PO) : ∀ cs : List TV, cellsW l (cs.map .t) (cs.map .t)
 | [] => trivial
 | c :: cs => ⟨by simp [cellW, PV.toT], cellsW_ts l cs⟩
theorem key_pb (a b c : Int) : keyOk Tryd.prog 94 (.agg [.int .i64 a, .int .i64 b, .int .i64 c]) = true := by kernel_rfl
theorem all_ts (k : Nat) (cs : List TV) : (cs.map PV.t).all (PV.under k) = true := by
 rw [List.all_eq_true]
 intro x hx
 obtain ⟨c, _, rfl⟩ := List.mem_map.1 hx
 rfl
theorem drop_ts (A : List Nat) (cs : List TV) : (cs.map PV.t).map (PV.dropV A) = cs.map .t := by
 rw [List.map_map]
 rfl
def resS0 (s : TV) (i : Nat) : List PO := [.box [.t (.int .i64 i)], .box [.junk, .junk, .junk], .res, .box [.t s, .t .nilSl, .junk], .grow 0 [] 93 10, .grow 0 [.gsl 4 0 10 0 0 false] 89 1, .box [.t .nilSl], .res]
theorem set_ts (cs : List TV) (i : Nat) (v : TV) (h : i < cs.length) : (cs.map PV.t).take i ++ [.t v] ++ (cs.map PV.t).drop (i + 1) = (cs.set i v).map .t := by
 rw [List.map_set, List.set_eq_take_append_cons_drop, if_pos (by rw [List.length_map]; exact h), List.append_assoc]; rfl
theorem take_snoc {α : Type} {l : List α} {i : Nat} {x : α} (h : l[i]? = some x) : l.take (i + 1) = l.take i ++ [x] := by rw [List.take_add_one, h]; rfl
theorem lastY_snoc (l : List (List Int)) (g : List Int) : lastY (l ++ [g]) = g := by unfold lastY; simp
def resS (s : TV) (L : List Pl) (ys : List (List Int)) : List PO := [.box [.t (.int .i64 ys.length)], .box [.junk, .junk, .junk], .res, .box [.t s, .t (lostT L), .junk], .grow 0 ((canC ys L.length).map .t) 93 10, .grow 0 [.gsl 4 0 10 0 L.length false] 89 1, .box [.t (dgT (lastY ys))], .res]
def restT (p : List (List ByteArray)) : TV := if readG p = [] then .tup [.nilSl, .int .i64 0, .int .i64 91] else .tup [pgV (restP p), .int .i64 (readG p).length, .int .i64 0]
theorem wRestore_c {s : TV} {p : List (List ByteArray)} (hs : pgR s p) (hv : validB p = true) : PCalls Tryd.prog 14 [s] (restT p) := by
 have hll : (placesP p).length ≤ 5 := by rw [places_len]; exact (valid_len hv).2
 obtain ⟨L, hL⟩ : ∃ L, placesP p = L := ⟨_, rfl⟩
 rw [hL] at hll
 have hsz : (readG p).length ≤ 100000 := readG_size (by rw [hL]; exact hll)
 have hsp := spW1_ok hs hv
 have hvl := (valid_len hv).1
 have hsp0 := hs
 obtain ⟨rs, f, hsq, hrl, hrs⟩ := page_rows hs hv
 obtain ⟨R, hR⟩ : ∃ R, restT p = R := ⟨_, rfl⟩
 rw [hR]
 refine pcalls_by Tryd.mixes hsp (fn := Tryd.f14) Tryd.func14 rfl (by kernel_rfl) (by show 1 ≤ _; decide) ?_
 by_cases h0 : L.length = 0
 ·have hLn : L = [] := List.eq_nil_of_length_eq_zero h0
  subst hLn
  have hT : lostT [] = .nilSl := rfl
  simp (decide := true) (implicitDefEqProofs := false) (maxSteps := 4000000) only [go_sem, Tryd.f14, hT, hL]
  refine pwpC_rangeY rfl 82 [7] [7, 2] [7, 2] ((readG p).map fun g => [dgT g]) [(0, .t s), (2, .t .nilSl), (3, .ptr 0 0), (4, .t (.int .i64 0)), (5, .ptr 3 0), (6, .gptr 5 0 0), (7, .ptr 6 0), (36, .fnc 82 [7])]
   [.box [.t (.int .i64 0)], .box [.junk, .junk, .junk], .mp 84 (mapD fun _ => none), .box [.t s, .t .nilSl, .mapr 2], .grow 0 [] 93 10, .grow 0 [.gsl 4 0 10 0 0 false] 89 1, .box [.t .nilSl], .box [.t s, .t .nilSl, .mapr 2]]
   (fun i => resS0 s i) 8 (readG p).length false .normal ?_ (by rfl) (by rfl) (by rfl) ?_ ?_ ?_ ?_ ?_ ?_ ?_ ?_ ?_ ?_
  ·simp (decide := true) (implicitDefEqProofs := false) (maxSteps := 4000000) only [go_sem, List.flatten_nil]
   first | done | trace_state
  ·rfl
  ·rfl
  ·exact ⟨_, Tryd.func82, rfl, rfl⟩
  ·intro l
   obtain ⟨D', h⟩ := wReadY_c hs hv ⟨l, (readG p).map fun g => [dgT g], (readG p).length, false⟩ rfl ⟨fun i g hg => by
    rw [Nat.zero_add]
    show ((readG p).map fun g => [dgT g])[i]? = _
    rw [List.getElem?_map, hg]; rfl, by show 0 + (readG p).length ≤ (readG p).length; omega⟩
   rw [hL] at h
   exact ⟨_, _, h, rfl⟩
  ·intro x hx
   obtain ⟨g, _, rfl⟩ := List.mem_map.1 hx
   rfl
  ·intro _
   exact ⟨(List.length_map _).symm, rfl⟩
  ·intro h; cases h
  ·intro i; exact Nat.le_refl _
  ·intro i x hi hx
   rw [List.getElem?_map, Option.map_eq_some_iff] at hx
   obtain ⟨g, hg, rfl⟩ := hx
   have hdg := readG_dig (List.mem_of_getElem? hg)
   rw [hL] at hdg
   have hg1 : dgT g = .nilSl := by unfold dgT; rw [if_pos (show g.length = 0 from hdg.1)]
   show pwpC _ _ _ _ _ _ ⟨_, resS0 s i⟩
   have hi1 : IntKind.i64.wrap ((i : Int) + 1) = ((i + 1 : Nat) : Int) := by rw [wrap_in (by omega) (by omega)]; omega
   simp (decide := true) (implicitDefEqProofs := false) (maxSteps := 4000000) only [go_sem, resS0, hg1, hi1]
   refine pwpC_loopU (A := Unit) [41, 42] (fun _ => [(43, .t (.int .i64 0))]) (fun _ => []) (fun _ => 0) () (by decide) (fun _ => by rfl) ?_ fun Q1 hQ1 ⟨⟩ I1 hI1 => ?_
   ·simp (decide := true) (implicitDefEqProofs := false) (maxSteps := 4000000) only [go_sem]
    first | done | trace_state
   ·simp (decide := true) (implicitDefEqProofs := false) (maxSteps := 4000000) only [go_sem]
    refine hQ1 _ _ ?_
    simp (decide := true) (implicitDefEqProofs := false) (maxSteps := 4000000) only [go_sem]
    first | done | trace_state
  ·show blockC _ _ _ ⟨_, resS0 s (readG p).length⟩
   by_cases hne : readG p = []
   ·have hR2 : R = .tup [.nilSl, .int .i64 0, .int .i64 91] := by rw [← hR]; unfold restT; rw [if_pos hne]
    rw [hne, hR2]
    simp (decide := true) (implicitDefEqProofs := false) (maxSteps := 4000000) only [go_sem, resS0, List.length_nil]
    first | done | trace_state
   ·have hpos : 0 < (readG p).length := List.length_pos_iff.2 hne
    have hz : (((readG p).length : Int) == 0) = false := by simp; exact hne
    simp (decide := true) (implicitDefEqProofs := false) (maxSteps := 4000000) only [go_sem, resS0, hz]
    obtain ⟨ys, hys⟩ : ∃ ys, readG p = ys := ⟨_, rfl⟩
    rw [hys] at hne hpos hsz ⊢
    refine pwpC_loopU (A := Unit) [2, 3, 4, 5, 6, 7, 11, 58, 59] (fun _ => [(60, .t (.int .i64 0))]) (fun _ => []) (fun _ => 0) () (by decide) (fun _ => by rfl) ?_ fun Q1 hQ1 ⟨⟩ I1 hI1 => ?_
    ·simp (decide := true) (implicitDefEqProofs := false) (maxSteps := 4000000) only [go_sem]
     first | done | trace_state
    ·simp (decide := true) (implicitDefEqProofs := false) (maxSteps := 4000000) only [go_sem]
     refine hQ1 _ _ ?_
     simp (decide := true) (implicitDefEqProofs := false) (maxSteps := 4000000) only [go_sem, hsq]
     obtain ⟨S, hS⟩ : ∃ S : Dg, S = fun _ => none := ⟨_, rfl⟩
     have hSok : DOk S := by rw [hS]; exact DOk_none
     have hSm : (fun _ => none : TV → Option TV) = mapB S := by rw [hS]; exact mapB_none.symm
     rw [hSm]
     refine pwpC_loopU (A := { i : Nat // i ≤ p.length }) [3, 4, 11, 85, 86] (fun i => [(87, .t (.int .i64 i.1)), (2, .own (((fixP S p).take i.1).map rowV) i.1 9)]) (fun i => [(9, .tok i.1 41)]) (fun i => p.length - i.1) ⟨0, by omega⟩ (by decide) (fun _ => by rfl) ?_ fun Q2 hQ2 ⟨i, hi⟩ I2 hI2 => ?_
     ·simp (decide := true) (implicitDefEqProofs := false) (maxSteps := 4000000) only [go_sem, List.take_zero, List.map_nil]
      first | done | trace_state
     ·by_cases hlt : (i : Int) < p.length
      ·obtain ⟨r, hr⟩ : ∃ r, p[i]? = some r := ⟨_, List.getElem?_eq_getElem (by omega)⟩
       obtain ⟨t, ht⟩ : ∃ t, rs[i]? = some t := ⟨_, List.getElem?_eq_getElem (by omega)⟩
       obtain ⟨hrl1, hrl2, hre⟩ := valid_row hv hr
       obtain ⟨g1, rfl⟩ := hrs i r t hr ht
       have d1 := tv_at ht
       have er : rowA p i = r := by unfold rowA; rw [List.getD_eq_getElem?_getD, hr]; rfl
       have hk1 : IntKind.i64.wrap ((i : Int) + 1) = ((i + 1 : Nat) : Int) := by rw [wrap_in (by omega) (by omega)]; omega
       simp (decide := true) (implicitDefEqProofs := false) (maxSteps := 4000000) only [go_sem, hlt, d1, Nat.mul_one]
       refine pwpC_loopU (A := { k : Nat // k ≤ r.length }) [2, 3, 4, 11, 85, 86, 87, 14, 92, 93] (fun k => [(94, .t (.int .i64 k.1)), (16, .own (((fixR S i r).take k.1).map .str) k.1 10)]) (fun k => [(10, .tok k.1 9)]) (fun k => r.length - k.1) ⟨0, by omega⟩ (by decide) (fun _ => by rfl) ?_ fun Q3 hQ3 ⟨k, hk⟩ I3 hI3 => ?_
       ·simp (decide := true) (implicitDefEqProofs := false) (maxSteps := 4000000) only [go_sem, List.take_zero, List.map_nil]
        first | done | trace_state
       ·by_cases hlt2 : (k : Int) < r.length
        ·obtain ⟨x, hx⟩ : ∃ x, r[k]? = some x := ⟨_, List.getElem?_eq_getElem (by omega)⟩
         have dx := txs_at hx
         have hk2 : IntKind.i64.wrap ((k : Int) + 1) = ((k + 1 : Nat) : Int) := by rw [wrap_in (by omega) (by omega)]; omega
         have hxs := entB_size (hre x (List.mem_of_getElem? hx))
         have hxb : x.size ≤ 140737488355328 := by omega
         have ex : entA r k = x := by unfold entA; rw [List.getD_eq_getElem?_getD, hx]; rfl
         simp (decide := true) (implicitDefEqProofs := false) (maxSteps := 4000000) only [go_sem, hlt2, dx, hxb, Nat.mul_one]
         have hfl := fun j => fixN_len S i k x j
         refine pwpC_loopU (A := { j : Nat // j ≤ x.size }) [2, 3, 4, 11, 85, 86, 87, 14, 92, 93, 94, 16, 17, 19, 102] (fun j => [(103, .t (.int .i64 j.1))]) (fun j => [(11, .grow 0 ((fixN S i k x j.1).map .t) 5 1)]) (fun j => x.size - j.1) ⟨0, by omega⟩ (by decide) (fun _ => by rfl) ?_ fun Q4 hQ4 ⟨j, hj⟩ I4 hI4 => ?_
         ·have hcw2 := fun l => cellsW_ts l (Go.Pm.bytesT x)
          have hau2 := fun k => all_ts k (Go.Pm.bytesT x)
          simp (decide := true) (implicitDefEqProofs := false) (maxSteps := 4000000) only [go_sem, fixN_0, hcw2, hau2]
          first | done | trace_state
         ·by_cases hlt3 : (j : Int) < x.size
          ·have hk3 : IntKind.i64.wrap ((j : Int) + 1) = ((j + 1 : Nat) : Int) := by rw [wrap_in (by omega) (by omega)]; omega
           have hcw2 := fun l => cellsW_ts l (fixN S i k x (j + 1))
           have hau2 := fun e => all_ts e (fixN S i k x (j + 1))
           have hmb := mapB_at S (i, k, j)
           unfold plT plC at hmb
           cases hSj : S (i, k, j) with
           | none =>
            have hfn := fixN_none S i k x j hSj
            rw [hSj] at hmb
            simp only [Option.map_none] at hmb
            simp (decide := true) (implicitDefEqProofs := false) (maxSteps := 4000000) only [go_sem, hlt3, key_pb, hmb]
            refine hI4 _ ⟨j + 1, by omega⟩ (by simp only; omega) ?_
            rw [hfn] at hcw2 hau2
            simp (decide := true) (implicitDefEqProofs := false) (maxSteps := 4000000) only [go_sem, hk3, hfn, hcw2, hau2]
            first | done | trace_state
           | some d =>
            have hd09 := hSok _ _ hSj
            have hfs := fixN_some S i k x j hSj hd09.1 hd09.2 (by omega)
            have hst2 := set_ts (fixN S i k x j) j (.int .u8 (48 + d)) (by rw [hfl]; omega)
            rw [hfs] at hst2
            have hle3 : j + 1 ≤ x.size := by omega
            have hfl2 : ((fixN S i k x j).map PV.t).length = x.size := by rw [List.length_map, hfl]
            rw [hSj] at hmb
            simp only [Option.map_some] at hmb
            simp (decide := true) (implicitDefEqProofs := false) (maxSteps := 4000000) only [go_sem, hlt3, key_pb, hmb, hst2, hle3, hfl2, Nat.mul_one]
            refine hI4 _ ⟨j + 1, by omega⟩ (by simp only; omega) ?_
            simp (decide := true) (implicitDefEqProofs := false) (maxSteps := 4000000) only [go_sem, hk3, hcw2, hau2]
            first | done | trace_state
          ·have hje : j = x.size := by omega
           subst hje
           simp (decide := true) (implicitDefEqProofs := false) (maxSteps := 4000000) only [go_sem, hlt3]
           refine hQ4 _ _ ?_
           have hna := fixN_all S i k x
           have hfl2 : ((fixN S i k x x.size).map PV.t).length = x.size := by rw [List.length_map, hfl]
           have htk : ((fixN S i k x x.size).map PV.t).take x.size = (fixN S i k x x.size).map PV.t := List.take_of_length_le (by omega)
           have hfx := fixR_at S i r k (by omega)
           rw [ex] at hfx
           have hrw : (k + 1) * 16 ≤ 140737488355328 := by omega
           have hll2 : (((fixR S i r).take k).map TV.str).length = k := by rw [List.length_map, List.length_take, fixR_len]; omega
           simp (decide := true) (implicitDefEqProofs := false) (maxSteps := 4000000) only [go_sem, hna, hfl2, htk, fixL_str, hrw, hll2, Nat.mul_one]
           refine hI3 _ ⟨k + 1, by omega⟩ (by simp only; omega) ?_
           simp (decide := true) (implicitDefEqProofs := false) (maxSteps := 4000000) only [go_sem, hk2, hfx, List.map_append, List.map_cons, List.map_nil]
           first | done | trace_state
        ·have hke : k = r.length := by omega
         subst hke
         have hfx := fixP_at S p i (by omega)
         rw [er] at hfx
         have htk : (fixR S i r).take r.length = fixR S i r := List.take_of_length_le (by rw [fixR_len]; exact Nat.le_refl _)
         have hln : ((fixR S i r).map TV.str).length = r.length := by rw [List.length_map, fixR_len]
         have htm : ((fixR S i r).map TV.str).take r.length = (fixR S i r).map TV.str := List.take_of_length_le (by omega)
         have hr0 : ¬ r.length = 0 := by omega
         have hrv : rowV (fixR S i r) = .sl ((fixR S i r).map .str) r.length true := by unfold rowV; rw [fixR_len]
         have hrw : (i + 1) * 24 ≤ 140737488355328 := by omega
         have hll2 : (((fixP S p).take i).map rowV).length = i := by rw [List.length_map, List.length_take, fixP_len]; omega
         simp (decide := true) (implicitDefEqProofs := false) (maxSteps := 4000000) only [go_sem, hlt2]
         refine hQ3 _ _ ?_
         simp (decide := true) (implicitDefEqProofs := false) (maxSteps := 4000000) only [go_sem, htk, hln, htm, hr0, hrw, hll2, Nat.mul_one]
         refine hI2 _ ⟨i + 1, by omega⟩ (by simp only; omega) ?_
         simp (decide := true) (implicitDefEqProofs := false) (maxSteps := 4000000) only [go_sem, hk1, hfx, List.map_append, List.map_cons, List.map_nil, hrv]
         first | done | trace_state
      ·have hie : i = p.length := by omega
       subst hie
       have htk : (fixP S p).take p.length = fixP S p := List.take_of_length_le (by rw [fixP_len]; exact Nat.le_refl _)
       have hp0 : ¬ p.length = 0 := by omega
       simp (decide := true) (implicitDefEqProofs := false) (maxSteps := 4000000) only [go_sem, hlt]
       refine hQ2 _ _ ?_
       have hR2 : R = .tup [.sl ((fixP S p).map rowV) p.length false, .int .i64 ys.length, .int .i64 0] := by
        rw [← hR]; unfold restT restP pgV
        rw [hys, if_neg hne, hL, hS, fixP_len]; rfl
       simp (decide := true) (implicitDefEqProofs := false) (maxSteps := 4000000) only [go_sem, htk, hp0, hR2]
       first | done | trace_state
 ·have hT := lostT_ne h0
  have hro : L.length * 10 ≤ 140737488355328 := by omega
  have hcn := canC_nil L.length
  simp (decide := true) (implicitDefEqProofs := false) (maxSteps := 4000000) only [go_sem, Tryd.f14, hT, hL, hro, ← hcn]
  refine pwpC_rangeY rfl 82 [7] [7, 2] [7, 2] ((readG p).map fun g => [dgT g]) [(0, .t s), (2, .t .nilSl), (3, .ptr 0 0), (4, .t (.int .i64 0)), (5, .ptr 3 0), (6, .gptr 5 0 0), (7, .ptr 6 0), (36, .fnc 82 [7])]
   [.box [.t (.int .i64 0)], .box [.junk, .junk, .junk], .mp 84 (mapD fun _ => none), .box [.t s, .t (lostT L), .mapr 2], .grow 0 ((canC [] L.length).map .t) 93 10, .grow 0 [.gsl 4 0 10 0 L.length false] 89 1, .box [.t .nilSl], .box [.t s, .t (lostT L), .mapr 2]]
   (fun i => resS s L ((readG p).take i)) 8 (readG p).length false .normal ?_ (by rfl) (by rfl) (by rfl) ?_ ?_ ?_ ?_ ?_ ?_ ?_ ?_ ?_ ?_
  ·have hcw := fun l => cellsW_ts l (canC [] L.length)
   have hau := fun k => all_ts k (canC [] L.length)
   simp (decide := true) (implicitDefEqProofs := false) (maxSteps := 4000000) only [go_sem, hT, hcw, hau]
   first | done | trace_state
  ·show _ = dropL _ _ _
   have hdr := fun A => drop_ts A (canC [] L.length)
   simp only [resS, dropL, List.take_zero, PO.dropO, hdr, List.map_cons, List.map_nil, PV.dropV]
   first | done | rfl | trace_state
  ·rfl
  ·exact ⟨_, Tryd.func82, rfl, rfl⟩
  ·intro l
   obtain ⟨D', h⟩ := wReadY_c hs hv ⟨l, (readG p).map fun g => [dgT g], (readG p).length, false⟩ rfl ⟨fun i g hg => by
    rw [Nat.zero_add]
    show ((readG p).map fun g => [dgT g])[i]? = _
    rw [List.getElem?_map, hg]; rfl, by show 0 + (readG p).length ≤ (readG p).length; omega⟩
   rw [hL] at h
   exact ⟨_, _, h, rfl⟩
  ·intro x hx
   obtain ⟨g, _, rfl⟩ := List.mem_map.1 hx
   rfl
  ·intro _
   exact ⟨(List.length_map _).symm, rfl⟩
  ·intro h; cases h
  ·intro i; exact Nat.le_refl _
  ·intro i x hi hx
   rw [List.getElem?_map, Option.map_eq_some_iff] at hx
   obtain ⟨g, hg, rfl⟩ := hx
   have hdg := readG_dig (List.mem_of_getElem? hg)
   rw [hL] at hdg
   have hts := take_snoc hg
   obtain ⟨ys, hys⟩ : ∃ ys, (readG p).take i = ys := ⟨_, rfl⟩
   have hyl : ys.length = i := by rw [← hys, List.length_take]; omega
   rw [hys] at hts
   have hg1 : dgT g = .sl (g.map (.int .i64)) L.length true := by unfold dgT; rw [if_neg (by rw [hdg.1]; exact h0), hdg.1]
   show pwpC _ _ _ _ _ _ ⟨_, resS s L ((readG p).take i)⟩
   rw [hys]
   have hi1 : IntKind.i64.wrap ((i : Int) + 1) = ((i + 1 : Nat) : Int) := by rw [wrap_in (by omega) (by omega)]; omega
   simp (decide := true) (implicitDefEqProofs := false) (maxSteps := 4000000) only [go_sem, resS, hyl, hg1, hi1]
   refine pwpC_loopU (A := { k : Nat // k ≤ L.length }) [6, 41, 42] (fun k => [(43, .t (.int .i64 k.1))]) (fun k => [(4, .grow 0 ((canX ys g k.1 L.length).map .t) 93 10)]) (fun k => L.length - k.1) ⟨0, by omega⟩ (by decide) (fun _ => by rfl) ?_ fun Q1 hQ1 ⟨k, hk⟩ I1 hI1 => ?_
   ·have hcw := fun l => cellsW_ts l (canC ys L.length)
    have hau := fun k => all_ts k (canC ys L.length)
    simp (decide := true) (implicitDefEqProofs := false) (maxSteps := 4000000) only [go_sem, canX_0, hcw, hau]
    first | done | trace_state
   ·by_cases hlt : (k : Int) < L.length
    ·have hgk : (g.map (TV.int .i64)).drop k = .int .i64 (g.getD k 0) :: (g.map (TV.int .i64)).drop (k + 1) := by
      have hk1 : k < g.length := by rw [hdg.1]; omega
      rw [List.drop_eq_getElem_cons (by rw [List.length_map]; exact hk1), List.getElem_map, List.getD_eq_getElem?_getD, List.getElem?_eq_getElem hk1]; rfl
     obtain ⟨dn, hdn⟩ : ∃ dn : Nat, g.getD k 0 = (dn : Int) := ⟨(g.getD k 0).toNat, by have := (hdg.2 k).1; omega⟩
     have hd10 : dn < 10 := by have := (hdg.2 k).2; omega
     have hst := canX_set ys g k dn hd10 hdn L.length (by omega)
     rw [hdn] at hgk
     have hk2 : IntKind.i64.wrap ((k : Int) + 1) = ((k + 1 : Nat) : Int) := by rw [wrap_in (by omega) (by omega)]; omega
     have hd10' : (dn : Int) < 10 := by omega
     have hcl := canX_len ys g k L.length
     have hcl2 : ((canX ys g k L.length).map PV.t).length = L.length * 10 := by rw [List.length_map, hcl]
     have hle : k * 10 + dn + 1 ≤ L.length * 10 := by omega
     have hst2 := set_ts (canX ys g k L.length) (k * 10 + dn) (.bool true) (by rw [hcl]; omega)
     rw [hst] at hst2
     simp (decide := true) (implicitDefEqProofs := false) (maxSteps := 4000000) only [go_sem, hlt, hgk, hd10', hcl2, hle, hst2, Nat.mul_one]
     refine hI1 _ ⟨k + 1, by omega⟩ (by simp only; omega) ?_
     have hcw := fun l => cellsW_ts l (canX ys g (k + 1) L.length)
     have hau := fun j => all_ts j (canX ys g (k + 1) L.length)
     simp (decide := true) (implicitDefEqProofs := false) (maxSteps := 4000000) only [go_sem, hk2, hcw, hau]
     first | done | trace_state
    ·have hke : k = L.length := by omega
     subst hke
     simp (decide := true) (implicitDefEqProofs := false) (maxSteps := 4000000) only [go_sem, hlt]
     refine hQ1 _ _ ?_
     have hcw := fun l => cellsW_ts l (canC (ys ++ [g]) L.length)
     have hau := fun k => all_ts k (canC (ys ++ [g]) L.length)
     simp (decide := true) (implicitDefEqProofs := false) (maxSteps := 4000000) only [go_sem, hts, List.length_append, List.length_cons, List.length_nil, lastY_snoc, canX_n, hyl, hg1, hcw, hau]
     first | done | trace_state
  ·rw [List.take_length]
   by_cases hne : readG p = []
   ·have hR2 : R = .tup [.nilSl, .int .i64 0, .int .i64 91] := by rw [← hR]; unfold restT; rw [if_pos hne]
    rw [hne, hR2]
    simp (decide := true) (implicitDefEqProofs := false) (maxSteps := 4000000) only [go_sem, resS, List.length_nil]
   ·have hpos : 0 < (readG p).length := List.length_pos_iff.2 hne
    have hz : (((readG p).length : Int) == 0) = false := by simp; exact hne
    simp (decide := true) (implicitDefEqProofs := false) (maxSteps := 4000000) only [go_sem, resS, hz, hT]
    obtain ⟨ys, hys⟩ : ∃ ys, readG p = ys := ⟨_, rfl⟩
    have hdg : ∀ g ∈ ys, digOk L.length g := fun g hg => by rw [← hys] at hg; have := readG_dig hg; rw [hL] at this; exact this
    rw [hys] at hne hpos hsz ⊢
    obtain ⟨g, hg⟩ : ∃ g, lastY ys = g := ⟨_, rfl⟩
    have hgm : g ∈ ys := by
     rw [← hg]; unfold lastY
     rw [List.getLastD_eq_getLast?, List.getLast?_eq_some_getLast hne]
     exact List.getLast_mem hne
    have hg2 := hdg g hgm
    have hg1 : dgT g = .sl (g.map (.int .i64)) L.length true := by unfold dgT; rw [if_neg (by rw [hg2.1]; exact h0), hg2.1]
    have hpl := plC_len L
    have hcl := canC_len ys L.length
    have hcl2 : ((canC ys L.length).map PV.t).length = L.length * 10 := by rw [List.length_map, hcl]
    refine pwpC_loopU (A := { k : Nat // k ≤ L.length }) [2, 3, 4, 5, 6, 7, 11, 58, 59] (fun k => [(60, .t (.int .i64 k.1))]) (fun k => [(8, .mp 94 (mapB (sureD ys L k.1)))]) (fun k => L.length - k.1) ⟨0, by omega⟩ (by decide) (fun _ => by rfl) ?_ fun Q1 hQ1 ⟨k, hk⟩ I1 hI1 => ?_
    ·have hcw := fun l => cellsW_ts l (canC ys L.length)
     have hau := fun k => all_ts k (canC ys L.length)
     simp (decide := true) (implicitDefEqProofs := false) (maxSteps := 4000000) only [go_sem, sureD, mapB_none, hcw, hau]
     first | done | trace_state
    ·by_cases hlt : (k : Int) < L.length
     ·obtain ⟨a, ha⟩ : ∃ a, L[k]? = some a := ⟨_, List.getElem?_eq_getElem (by omega)⟩
      have da := plC_at ha
      have hle : k * 3 + 3 ≤ (L.flatMap plC).length := by rw [hpl]; omega
      have hk1 : IntKind.i64.wrap ((k : Int) + 1) = ((k + 1 : Nat) : Int) := by rw [wrap_in (by omega) (by omega)]; omega
      have hgk : (g.map (TV.int .i64)).drop k = .int .i64 (g.getD k 0) :: (g.map (TV.int .i64)).drop (k + 1) := by
       have hk1 : k < g.length := by rw [hg2.1]; omega
       rw [List.drop_eq_getElem_cons (by rw [List.length_map]; exact hk1), List.getElem_map, List.getD_eq_getElem?_getD, List.getElem?_eq_getElem hk1]; rfl
      have hd09 := hg2.2 k
      obtain ⟨d, hd⟩ : ∃ d, g.getD k 0 = d := ⟨_, rfl⟩
      rw [hd] at hgk hd09
      obtain ⟨d0, d9⟩ := hd09
      have hchk := sure_chk (ys := ys) (k := k) (d := d) (fun g hg => (hdg g hg).2 k) (by rw [hg]; exact hd) hne
      obtain ⟨R0, hR0⟩ := canC_at ys L.length k (by omega)
      have hR1 : ((canC ys L.length).map PV.t).drop (k * 10) = (canK ys k).map .t ++ R0.map .t := by rw [← List.map_drop, hR0, List.map_append]
      have hle2 : k * 10 + 10 ≤ L.length * 10 := by omega
      simp (decide := true) (implicitDefEqProofs := false) (maxSteps := 4000000) only [go_sem, hlt, da, hle, plC, hg, hg1, hgk, d0, d9, hR1, canK, hle2, hcl2, onlyT, hchk, Nat.mul_one]
      have hcw := fun l => cellsW_ts l (canC ys L.length)
      have hau := fun k => all_ts k (canC ys L.length)
      rcases Bool.eq_false_or_eq_true (sureB ys k) with hsb | hsb
      ·have hds : sureD ys L (k + 1) = updD (sureD ys L k) a d := by
        show (if sureB ys k = true then updD (sureD ys L k) (L.getD k (0, 0, 0)) ((lastY ys).getD k 0) else _) = _
        rw [if_pos hsb, List.getD_eq_getElem?_getD, ha, hg, hd]; rfl
       have hup := mapB_upd (sureD ys L k) a d
       rw [← hds] at hup
       unfold plT plC at hup
       have hw1 : IntKind.i64.wrap (48 + d) = 48 + d := wrap_in (by omega) (by omega)
       have hw2 : IntKind.u8.wrap (48 + d) = 48 + d := by rw [IntKind.wrap_u8]; omega
       simp (decide := true) (implicitDefEqProofs := false) (maxSteps := 4000000) only [go_sem, hsb, hlt, hg, hg1, hgk, d0, d9, hw1, hw2, key_pb, hup, Nat.mul_one]
       refine hI1 _ ⟨k + 1, by omega⟩ (by simp only; omega) ?_
       simp (decide := true) (implicitDefEqProofs := false) (maxSteps := 4000000) only [go_sem, hk1, hcw, hau, hg, hg1]
       first | done | trace_state
      ·have hds : sureD ys L (k + 1) = sureD ys L k := by
        show (if sureB ys k = true then updD (sureD ys L k) (L.getD k (0, 0, 0)) ((lastY ys).getD k 0) else _) = _
        rw [if_neg (by rw [hsb]; decide)]
       simp (decide := true) (implicitDefEqProofs := false) (maxSteps := 4000000) only [go_sem, hsb]
       refine hI1 _ ⟨k + 1, by omega⟩ (by simp only; omega) ?_
       simp (decide := true) (implicitDefEqProofs := false) (maxSteps := 4000000) only [go_sem, hk1, hds, hcw, hau, hg, hg1]
       first | done | trace_state
     ·have hke : k = L.length := by omega
      subst hke
      simp (decide := true) (implicitDefEqProofs := false) (maxSteps := 4000000) only [go_sem, hlt]
      refine hQ1 _ _ ?_
      simp (decide := true) (implicitDefEqProofs := false) (maxSteps := 4000000) only [go_sem, hsq]
      obtain ⟨S, hS⟩ : ∃ S, sureD ys L L.length = S := ⟨_, rfl⟩
      have hSok : DOk S := by rw [← hS]; exact sureD_ok L (fun k => by rw [hg]; exact hg2.2 k) _
      rw [hS]
      refine pwpC_loopU (A := { i : Nat // i ≤ p.length }) [3, 4, 11, 85, 86] (fun i => [(87, .t (.int .i64 i.1)), (2, .own (((fixP S p).take i.1).map rowV) i.1 9)]) (fun i => [(9, .tok i.1 41)]) (fun i => p.length - i.1) ⟨0, by omega⟩ (by decide) (fun _ => by rfl) ?_ fun Q2 hQ2 ⟨i, hi⟩ I2 hI2 => ?_
      ·have hcw := fun l => cellsW_ts l (canC ys L.length)
       have hau := fun k => all_ts k (canC ys L.length)
       simp (decide := true) (implicitDefEqProofs := false) (maxSteps := 4000000) only [go_sem, List.take_zero, List.map_nil, hcw, hau]
       first | done | trace_state
      ·by_cases hlt : (i : Int) < p.length
       ·obtain ⟨r, hr⟩ : ∃ r, p[i]? = some r := ⟨_, List.getElem?_eq_getElem (by omega)⟩
        obtain ⟨t, ht⟩ : ∃ t, rs[i]? = some t := ⟨_, List.getElem?_eq_getElem (by omega)⟩
        obtain ⟨hrl1, hrl2, hre⟩ := valid_row hv hr
        obtain ⟨g1, rfl⟩ := hrs i r t hr ht
        have d1 := tv_at ht
        have er : rowA p i = r := by unfold rowA; rw [List.getD_eq_getElem?_getD, hr]; rfl
        have hk1 : IntKind.i64.wrap ((i : Int) + 1) = ((i + 1 : Nat) : Int) := by rw [wrap_in (by omega) (by omega)]; omega
        simp (decide := true) (implicitDefEqProofs := false) (maxSteps := 4000000) only [go_sem, hlt, d1, Nat.mul_one]
        refine pwpC_loopU (A := { k : Nat // k ≤ r.length }) [2, 3, 4, 11, 85, 86, 87, 14, 92, 93] (fun k => [(94, .t (.int .i64 k.1)), (16, .own (((fixR S i r).take k.1).map .str) k.1 10)]) (fun k => [(10, .tok k.1 9)]) (fun k => r.length - k.1) ⟨0, by omega⟩ (by decide) (fun _ => by rfl) ?_ fun Q3 hQ3 ⟨k, hk⟩ I3 hI3 => ?_
        ·have hcw := fun l => cellsW_ts l (canC ys L.length)
         have hau := fun k => all_ts k (canC ys L.length)
         simp (decide := true) (implicitDefEqProofs := false) (maxSteps := 4000000) only [go_sem, List.take_zero, List.map_nil, hcw, hau]
         first | done | trace_state
        ·by_cases hlt2 : (k : Int) < r.length
         ·obtain ⟨x, hx⟩ : ∃ x, r[k]? = some x := ⟨_, List.getElem?_eq_getElem (by omega)⟩
          have dx := txs_at hx
          have hk2 : IntKind.i64.wrap ((k : Int) + 1) = ((k + 1 : Nat) : Int) := by rw [wrap_in (by omega) (by omega)]; omega
          have hxs := entB_size (hre x (List.mem_of_getElem? hx))
          have hxb : x.size ≤ 140737488355328 := by omega
          have ex : entA r k = x := by unfold entA; rw [List.getD_eq_getElem?_getD, hx]; rfl
          simp (decide := true) (implicitDefEqProofs := false) (maxSteps := 4000000) only [go_sem, hlt2, dx, hxb, Nat.mul_one]
          have hfl := fun j => fixN_len S i k x j
          refine pwpC_loopU (A := { j : Nat // j ≤ x.size }) [2, 3, 4, 11, 85, 86, 87, 14, 92, 93, 94, 16, 17, 19, 102] (fun j => [(103, .t (.int .i64 j.1))]) (fun j => [(11, .grow 0 ((fixN S i k x j.1).map .t) 5 1)]) (fun j => x.size - j.1) ⟨0, by omega⟩ (by decide) (fun _ => by rfl) ?_ fun Q4 hQ4 ⟨j, hj⟩ I4 hI4 => ?_
          ·have hcw := fun l => cellsW_ts l (canC ys L.length)
           have hau := fun k => all_ts k (canC ys L.length)
           have hcw2 := fun l => cellsW_ts l (Go.Pm.bytesT x)
           have hau2 := fun k => all_ts k (Go.Pm.bytesT x)
           simp (decide := true) (implicitDefEqProofs := false) (maxSteps := 4000000) only [go_sem, fixN_0, hcw, hau, hcw2, hau2]
           first | done | trace_state
          ·by_cases hlt3 : (j : Int) < x.size
           ·have hk3 : IntKind.i64.wrap ((j : Int) + 1) = ((j + 1 : Nat) : Int) := by rw [wrap_in (by omega) (by omega)]; omega
            have hcw := fun l => cellsW_ts l (canC ys L.length)
            have hau := fun k => all_ts k (canC ys L.length)
            have hcw2 := fun l => cellsW_ts l (fixN S i k x (j + 1))
            have hau2 := fun e => all_ts e (fixN S i k x (j + 1))
            have hmb := mapB_at S (i, k, j)
            unfold plT plC at hmb
            cases hSj : S (i, k, j) with
            | none =>
             have hfn := fixN_none S i k x j hSj
             rw [hSj] at hmb
             simp only [Option.map_none] at hmb
             simp (decide := true) (implicitDefEqProofs := false) (maxSteps := 4000000) only [go_sem, hlt3, key_pb, hmb]
             refine hI4 _ ⟨j + 1, by omega⟩ (by simp only; omega) ?_
             rw [hfn] at hcw2 hau2
             simp (decide := true) (implicitDefEqProofs := false) (maxSteps := 4000000) only [go_sem, hk3, hfn, hcw, hau, hcw2, hau2]
             first | done | trace_state
            | some d =>
             have hd09 := hSok _ _ hSj
             have hfs := fixN_some S i k x j hSj hd09.1 hd09.2 (by omega)
             have hst2 := set_ts (fixN S i k x j) j (.int .u8 (48 + d)) (by rw [hfl]; omega)
             rw [hfs] at hst2
             have hle3 : j + 1 ≤ x.size := by omega
             have hfl2 : ((fixN S i k x j).map PV.t).length = x.size := by rw [List.length_map, hfl]
             rw [hSj] at hmb
             simp only [Option.map_some] at hmb
             simp (decide := true) (implicitDefEqProofs := false) (maxSteps := 4000000) only [go_sem, hlt3, key_pb, hmb, hst2, hle3, hfl2, Nat.mul_one]
             refine hI4 _ ⟨j + 1, by omega⟩ (by simp only; omega) ?_
             simp (decide := true) (implicitDefEqProofs := false) (maxSteps := 4000000) only [go_sem, hk3, hcw, hau, hcw2, hau2]
             first | done | trace_state
           ·have hje : j = x.size := by omega
            subst hje
            simp (decide := true) (implicitDefEqProofs := false) (maxSteps := 4000000) only [go_sem, hlt3]
            refine hQ4 _ _ ?_
            have hna := fixN_all S i k x
            have hfl2 : ((fixN S i k x x.size).map PV.t).length = x.size := by rw [List.length_map, hfl]
            have htk : ((fixN S i k x x.size).map PV.t).take x.size = (fixN S i k x x.size).map PV.t := List.take_of_length_le (by omega)
            have hfx := fixR_at S i r k (by omega)
            rw [ex] at hfx
            have hrw : (k + 1) * 16 ≤ 140737488355328 := by omega
            have hll2 : (((fixR S i r).take k).map TV.str).length = k := by rw [List.length_map, List.length_take, fixR_len]; omega
            simp (decide := true) (implicitDefEqProofs := false) (maxSteps := 4000000) only [go_sem, hna, hfl2, htk, fixL_str, hrw, hll2, Nat.mul_one]
            refine hI3 _ ⟨k + 1, by omega⟩ (by simp only; omega) ?_
            have hcw := fun l => cellsW_ts l (canC ys L.length)
            have hau := fun k => all_ts k (canC ys L.length)
            simp (decide := true) (implicitDefEqProofs := false) (maxSteps := 4000000) only [go_sem, hk2, hfx, List.map_append, List.map_cons, List.map_nil, hcw, hau]
            first | done | trace_state
         ·have hke : k = r.length := by omega
          subst hke
          have hfx := fixP_at S p i (by omega)
          rw [er] at hfx
          have htk : (fixR S i r).take r.length = fixR S i r := List.take_of_length_le (by rw [fixR_len]; exact Nat.le_refl _)
          have hln : ((fixR S i r).map TV.str).length = r.length := by rw [List.length_map, fixR_len]
          have htm : ((fixR S i r).map TV.str).take r.length = (fixR S i r).map TV.str := List.take_of_length_le (by omega)
          have hr0 : ¬ r.length = 0 := by omega
          have hrv : rowV (fixR S i r) = .sl ((fixR S i r).map .str) r.length true := by unfold rowV; rw [fixR_len]
          have hrw : (i + 1) * 24 ≤ 140737488355328 := by omega
          have hll2 : (((fixP S p).take i).map rowV).length = i := by rw [List.length_map, List.length_take, fixP_len]; omega
          simp (decide := true) (implicitDefEqProofs := false) (maxSteps := 4000000) only [go_sem, hlt2]
          refine hQ3 _ _ ?_
          simp (decide := true) (implicitDefEqProofs := false) (maxSteps := 4000000) only [go_sem, htk, hln, htm, hr0, hrw, hll2, Nat.mul_one]
          refine hI2 _ ⟨i + 1, by omega⟩ (by simp only; omega) ?_
          have hcw := fun l => cellsW_ts l (canC ys L.length)
          have hau := fun k => all_ts k (canC ys L.length)
          simp (decide := true) (implicitDefEqProofs := false) (maxSteps := 4000000) only [go_sem, hk1, hfx, List.map_append, List.map_cons, List.map_nil, hrv, hcw, hau]
          first | done | trace_state
       ·have hie : i = p.length := by omega
        subst hie
        have htk : (fixP S p).take p.length = fixP S p := List.take_of_length_le (by rw [fixP_len]; exact Nat.le_refl _)
        have hp0 : ¬ p.length = 0 := by omega
        simp (decide := true) (implicitDefEqProofs := false) (maxSteps := 4000000) only [go_sem, hlt]
        refine hQ2 _ _ ?_
        have hR2 : R = .tup [.sl ((fixP S p).map rowV) p.length false, .int .i64 ys.length, .int .i64 0] := by
         rw [← hR]; unfold restT restP pgV
         rw [hys, if_neg hne, hL, hS, fixP_len]
        simp (decide := true) (implicitDefEqProofs := false) (maxSteps := 4000000) only [go_sem, htk, hp0, hR2]
        first | done | trace_state
end Go.Proofs.YtdkboibnokipaaaDoor

/- Part W2. -/
namespace Go.Ow
open Go Go.RowKit Go.Pm
def cntD (ys : List (List Int)) (k : Nat) (d : Int) : Nat := ys.countP fun g => g.getD k 0 == d
def cntT (ys : List (List Int)) (k : Nat) : List TV := (List.range 10).map fun (d : Nat) => .int .i64 (cntD ys k (d : Int))
def cntC (ys : List (List Int)) (k : Nat) : List PV := (cntT ys k).map .t
theorem cntD_le (ys : List (List Int)) (k : Nat) (d : Int) : cntD ys k d ≤ ys.length := List.countP_le_length
theorem cntT_len (ys : List (List Int)) (k : Nat) : (cntT ys k).length = 10 := by unfold cntT; rw [List.length_map, List.length_range]
theorem cntC_len (ys : List (List Int)) (k : Nat) : (cntC ys k).length = 10 := by unfold cntC; rw [List.length_map, cntT_len]
theorem cntT_at (ys : List (List Int)) (k : Nat) {e : Nat} (he : e < 10) : (cntT ys k)[e]? = some (.int .i64 (cntD ys k (e : Int))) := by
 unfold cntT; rw [List.getElem?_map, List.getElem?_range he]; rfl
theorem cntC_at (ys : List (List Int)) (k : Nat) {e : Nat} (he : e < 10) : (cntC ys k)[e]? = some (.t (.int .i64 (cntD ys k (e : Int)))) := by
 unfold cntC; rw [List.getElem?_map, cntT_at ys k he]; rfl
theorem cntD_snoc (ys : List (List Int)) (g : List Int) (k : Nat) (d : Int) : cntD (ys ++ [g]) k d = cntD ys k d + if g.getD k 0 = d then 1 else 0 := by
 unfold cntD
 rw [List.countP_append, List.countP_singleton]
 by_cases h : g.getD k 0 = d
 ·rw [if_pos h, if_pos (by simpa using h)]
 ·rw [if_neg h, if_neg (by simpa using h)]
theorem cntT_set (ys : List (List Int)) (g : List Int) (k : Nat) {e : Nat} (he : e < 10) (hg : g.getD k 0 = (e : Int)) : (cntT ys k).set e (.int .i64 ((cntD ys k (e : Int) + 1 : Nat) : Int)) = cntT (ys ++ [g]) k := by
 apply List.ext_getElem?
 intro y
 rw [List.getElem?_set, cntT_len]
 by_cases h : e = y
 ·subst h
  rw [if_pos rfl, if_pos he, cntT_at _ _ he, cntD_snoc, if_pos hg]
 ·rw [if_neg h]
  by_cases hy : y < 10
  ·rw [cntT_at _ _ hy, cntT_at _ _ hy, cntD_snoc, if_neg (by rw [hg]; omega)]; rfl
  ·rw [List.getElem?_eq_none (by rw [cntT_len]; omega), List.getElem?_eq_none (by rw [cntT_len]; omega)]
theorem cntC_set (ys : List (List Int)) (g : List Int) (k : Nat) {e : Nat} (he : e < 10) (hg : g.getD k 0 = (e : Int)) : (cntC ys k).set e (.t (.int .i64 ((cntD ys k (e : Int) + 1 : Nat) : Int))) = cntC (ys ++ [g]) k := by
 unfold cntC
 rw [← cntT_set ys g k he hg, List.map_set]
theorem cntC_nil (k : Nat) : cntC [] k = [.t (.int .i64 0), .t (.int .i64 0), .t (.int .i64 0), .t (.int .i64 0), .t (.int .i64 0), .t (.int .i64 0), .t (.int .i64 0), .t (.int .i64 0), .t (.int .i64 0), .t (.int .i64 0)] := rfl
def mostTo (ys : List (List Int)) (k : Nat) : Nat → Nat
 | 0 => 0
 | d + 1 => max (mostTo ys k d) (cntD ys k (d : Int))
theorem mostTo_le (ys : List (List Int)) (k : Nat) : ∀ d, mostTo ys k d ≤ ys.length
 | 0 => Nat.zero_le _
 | d + 1 => by
  have := mostTo_le ys k d
  have := cntD_le ys k (d : Int)
  unfold mostTo
  omega
def askTo (ys : List (List Int)) (L : List Pl) : Nat → Pl × Nat
 | 0 => ((0, 0, 0), 0)
 | j + 1 => if (askTo ys L j).2 = 0 ∨ mostTo ys j 10 < (askTo ys L j).2 then (L.getD j (0, 0, 0), mostTo ys j 10) else askTo ys L j
def askT (p : List (List ByteArray)) : TV :=
 if (readG p).length = 0 then .tup [.agg [.int .i64 0, .int .i64 0, .int .i64 0], .int .i64 0, .int .i64 91] else
 if (readG p).length = 1 then .tup [.agg [.int .i64 0, .int .i64 0, .int .i64 0], .int .i64 0, .int .i64 4] else
 .tup [plT (askTo (readG p) (placesP p) (placesP p).length).1, .int .i64 (askTo (readG p) (placesP p) (placesP p).length).2, .int .i64 0]
end Go.Ow
namespace Go.Proofs.YtdkboibnokipaaaDoor
open Go.RowKit Go.Pm Go.Ow
set_option maxRecDepth 100000
set_option linter.unusedVariables false
set_option maxHeartbeats 8000000
noncomputable def spW2 (s : TV) (p : List (List ByteArray)) : Pm.Spec := { (noSpec.oneH 51 (wkOp s p)).oneH 52 wkRd with mu := fun t => t == 106, gd := true }
theorem spW2_ok {s : TV} {p : List (List ByteArray)} (hs : pgR s p) (hv : validB p = true) : SpecOk Tryd.prog (spW2 s p) := Spec.oneH_ok wkRd_ok (Spec.oneH_ok (wkOp_ok hs hv) noSpec_ok)
section
variable (s : TV) (p : List (List ByteArray)) (g : FuncId) (xs : List TV) (ps : List PV) (hl : List PO) (Y : YS) (t : TypeId)
@[go_sem] theorem spW2_p : (spW2 s p).p g xs = none := rfl
@[go_sem] theorem spW2_h : (spW2 s p).h g ps hl = if g = 52 then wkRd ps hl else if g = 51 then wkOp s p ps hl else none := rfl
@[go_sem] theorem spW2_y : (spW2 s p).y Y g ps hl = none := rfl
@[go_sem] theorem spW2_pn : (spW2 s p).pn g ps hl = none := rfl
@[go_sem] theorem spW2_fz : (spW2 s p).fz g = false := rfl
@[go_sem] theorem spW2_fr : (spW2 s p).fr g = false := rfl
@[go_sem] theorem spW2_yf : (spW2 s p).yf g = false := rfl
@[go_sem] theorem spW2_gd : (spW2 s p).gd = true := rfl
@[go_sem] theorem spW2_nf : (spW2 s p).nf t = false := rfl
@[go_sem] theorem spW2_mu : (spW2 s p).mu t = (t == 106) := rfl
end
end Go.Proofs.YtdkboibnokipaaaDoor

/- Part W3. -/
namespace Go.Ow
open Go Go.RowKit Go.Pm
theorem pl_ne {a b : Pl} (h : a ≠ b) : ¬ ((a.1 : Int) = b.1 ∧ (a.2.1 : Int) = b.2.1 ∧ (a.2.2 : Int) = b.2.2) := fun e => h (by
 obtain ⟨a1, a2, a3⟩ := a
 obtain ⟨b1, b2, b3⟩ := b
 simp only at e
 rw [show a1 = b1 by omega, show a2 = b2 by omega, show a3 = b3 by omega])
theorem dig_at {n : Nat} {g : List Int} (h : digOk n g) (k : Nat) : ∃ e : Nat, g.getD k 0 = (e : Int) ∧ e < 10 := ⟨(g.getD k 0).toNat, by have := h.2 k; omega, by have := h.2 k; omega⟩
theorem dig4 {a0 a1 a2 a3 : Pl} {g : List Int} (h : digOk [a0, a1, a2, a3].length g) : ∃ e0 e1 e2 e3 : Nat, g = [(e0 : Int), (e1 : Int), (e2 : Int), (e3 : Int)] ∧ e0 < 10 ∧ e1 < 10 ∧ e2 < 10 ∧ e3 < 10 := by
 have hl : g.length = 4 := h.1
 match g, hl with
 | [x0, x1, x2, x3], _ =>
  obtain ⟨e0, q0, r0⟩ := dig_at h 0
  change x0 = _ at q0
  obtain ⟨e1, q1, r1⟩ := dig_at h 1
  change x1 = _ at q1
  obtain ⟨e2, q2, r2⟩ := dig_at h 2
  change x2 = _ at q2
  obtain ⟨e3, q3, r3⟩ := dig_at h 3
  change x3 = _ at q3
  exact ⟨e0, e1, e2, e3, by rw [q0, q1, q2, q3], r0, r1, r2, r3⟩
theorem zer_at {e : Nat} (h : e < 10) : ([.t (.int .i64 0), .t (.int .i64 0), .t (.int .i64 0), .t (.int .i64 0), .t (.int .i64 0), .t (.int .i64 0), .t (.int .i64 0), .t (.int .i64 0), .t (.int .i64 0), .t (.int .i64 0)] : List PV)[e]? = some (.t (.int .i64 0)) := by
 have := cntC_at [] 0 h
 rw [cntC_nil] at this
 exact this
theorem zer_set (g : List Int) (k : Nat) {e : Nat} (h : e < 10) (hg : g.getD k 0 = (e : Int)) : List.take e ([.t (.int .i64 0), .t (.int .i64 0), .t (.int .i64 0), .t (.int .i64 0), .t (.int .i64 0), .t (.int .i64 0), .t (.int .i64 0), .t (.int .i64 0), .t (.int .i64 0), .t (.int .i64 0)] : List PV) ++ [.t (.int .i64 1)] ++ List.drop e [.t (.int .i64 0), .t (.int .i64 0), .t (.int .i64 0), .t (.int .i64 0), .t (.int .i64 0), .t (.int .i64 0), .t (.int .i64 0), .t (.int .i64 0), .t (.int .i64 0)] = cntC [g] k := by
 have := cntC_set [] g k h hg
 rw [List.set_eq_take_append_cons_drop, if_pos (by rw [cntC_len]; exact h), cntC_nil] at this
 rw [List.append_assoc]
 exact this
theorem cnt_set (ys : List (List Int)) (g : List Int) (k : Nat) {e : Nat} (h : e < 10) (hg : g.getD k 0 = (e : Int)) : List.take e (cntC ys k) ++ [.t (.int .i64 ((cntD ys k (e : Int) + 1 : Nat) : Int))] ++ List.drop (e + 1) (cntC ys k) = cntC (ys ++ [g]) k := by
 rw [← cntC_set ys g k h hg, List.set_eq_take_append_cons_drop, if_pos (by rw [cntC_len]; exact h), List.append_assoc]; rfl
theorem cnt_wrap {ys : List (List Int)} (k : Nat) (d : Int) (h : ys.length ≤ 100000) : IntKind.i64.wrap ((cntD ys k d : Int) + 1) = ((cntD ys k d + 1 : Nat) : Int) := by
 have := cntD_le ys k d
 rw [wrap_in (by omega) (by omega)]; omega
end Go.Ow
namespace Go.Proofs.YtdkboibnokipaaaDoor
open Go.RowKit Go.Pm Go.Ow
set_option maxRecDepth 100000
set_option linter.unusedVariables false
set_option maxHeartbeats 16000000
theorem und_pp : Tryd.prog.underlying 107 = some (.pointer 98) := by kernel_rfl
theorem w11 : IntKind.i64.wrap 1 = 1 := by decide
theorem key_pp (a b c : Int) : keyOk Tryd.prog 106 (.agg [.int .i64 a, .int .i64 b, .int .i64 c]) = true := by kernel_rfl
theorem wAsk4_c {s : TV} {p : List (List ByteArray)} (hs : pgR s p) (hv : validB p = true) {a0 a1 a2 a3 : Pl} (hL : placesP p = [a0, a1, a2, a3]) (ne01 : a0 ≠ a1) (ne02 : a0 ≠ a2) (ne03 : a0 ≠ a3) (ne12 : a1 ≠ a2) (ne13 : a1 ≠ a3) (ne23 : a2 ≠ a3) : PCalls Tryd.prog 19 [s] (askT p) := by
 have hll : (placesP p).length ≤ 5 := by rw [places_len]; exact (valid_len hv).2
 have hsp := spW2_ok hs hv
 have hsz : (readG p).length ≤ 100000 := readG_size hll
 obtain ⟨R, hR⟩ : ∃ R, askT p = R := ⟨_, rfl⟩
 rw [hR]
 unfold askT at hR
 rw [hL] at hR
 have nf01 := pl_ne ne01
 have nf10 := pl_ne (Ne.symm ne01)
 have nf02 := pl_ne ne02
 have nf20 := pl_ne (Ne.symm ne02)
 have nf03 := pl_ne ne03
 have nf30 := pl_ne (Ne.symm ne03)
 have nf12 := pl_ne ne12
 have nf21 := pl_ne (Ne.symm ne12)
 have nf13 := pl_ne ne13
 have nf31 := pl_ne (Ne.symm ne13)
 have nf23 := pl_ne ne23
 have nf32 := pl_ne (Ne.symm ne23)
 have hT : lostT [a0, a1, a2, a3] = .sl (plC a0 ++ (plC a1 ++ (plC a2 ++ (plC a3)))) 4 false := rfl
 have hcw : ∀ (l : List PO) (ys : List (List Int)) (k : Nat), cellsW l (cntC ys k) (cntC ys k) := fun l ys k => cellsW_ts l _
 have hau : ∀ (m : Nat) (ys : List (List Int)) (k : Nat), (cntC ys k).all (PV.under m) = true := fun m ys k => all_ts m _
 refine pcalls_by Tryd.mixes hsp (fn := Tryd.f19) Tryd.func19 rfl (by kernel_rfl) (by show 1 ≤ _; decide) ?_
 simp (decide := true) (implicitDefEqProofs := false) (maxSteps := 4000000) only [go_sem, Tryd.f19, hL]
 refine pwpC_rangeY rfl 82 [7] [7, 2] [7, 2] ((readG p).map fun g => [dgT g]) [(2, .ptr 0 0), (3, .t (.int .i64 0)), (4, .t (.int .i64 0)), (5, .ptr 3 0), (6, .gptr 5 0 0), (7, .ptr 6 0), (27, .fnc 82 [7])]
   [.box [.t (.int .i64 0), .t (.int .i64 0), .t (.int .i64 0)], .box [.junk, .junk, .junk], .mp 84 (mapD fun _ => none), .box [.t s, .t (lostT [a0, a1, a2, a3]), .mapr 2], .mpk 106 [] [], .grow 0 [.mapr 4] 106 1, .box [.t (.int .i64 0)], .box [.t s, .t (lostT [a0, a1, a2, a3]), .mapr 2]]
   (fun i => if i = 0 then [.box [.t (.int .i64 0), .t (.int .i64 0), .t (.int .i64 0)], .box [.junk, .junk, .junk], .res, .box [.t s, .t (lostT [a0, a1, a2, a3]), .junk], .mpk 106 [] [], .grow 0 [.mapr 4] 106 1, .box [.t (.int .i64 0)], .res] else
    [.box [.t (.int .i64 0), .t (.int .i64 0), .t (.int .i64 0)], .box [.junk, .junk, .junk], .res, .box [.t s, .t (lostT [a0, a1, a2, a3]), .junk], .mpk 106 [plT a0, plT a1, plT a2, plT a3] [.ptr 8 0, .ptr 9 0, .ptr 10 0, .ptr 11 0], .grow 0 [.mapr 4] 106 1, .box [.t (.int .i64 i)], .res, .box (cntC ((readG p).take i) 0), .box (cntC ((readG p).take i) 1), .box (cntC ((readG p).take i) 2), .box (cntC ((readG p).take i) 3)]) 12 (readG p).length false .normal ?_ (by rfl) (by rfl) (by rfl) ?_ ?_ ?_ ?_ ?_ ?_ ?_ ?_ ?_ ?_
 ·simp (decide := true) (implicitDefEqProofs := false) (maxSteps := 4000000) only [go_sem]
  first | done | trace_state
 ·rfl
 ·rfl
 ·exact ⟨_, Tryd.func82, rfl, rfl⟩
 ·intro l
  obtain ⟨D', h⟩ := wReadY_c hs hv ⟨l, (readG p).map fun g => [dgT g], (readG p).length, false⟩ rfl ⟨fun i g hg => by
   rw [Nat.zero_add]
   show ((readG p).map fun g => [dgT g])[i]? = _
   rw [List.getElem?_map, hg]; rfl, by show 0 + (readG p).length ≤ (readG p).length; omega⟩
  rw [hL] at h
  exact ⟨_, _, h, rfl⟩
 ·intro x hx
  obtain ⟨g, _, rfl⟩ := List.mem_map.1 hx
  rfl
 ·intro _
  exact ⟨(List.length_map _).symm, rfl⟩
 ·intro h; cases h
 ·intro i
  by_cases h : i = 0
  ·simp only [h, if_true]; show 8 ≤ 12; decide
  ·simp only [h, if_false]; exact Nat.le_refl _
 ·intro i x hi hx
  rw [List.getElem?_map, Option.map_eq_some_iff] at hx
  obtain ⟨g, hg, rfl⟩ := hx
  have hdg := readG_dig (List.mem_of_getElem? hg)
  rw [hL] at hdg
  have hts := take_snoc hg
  have hi1 : IntKind.i64.wrap ((i : Int) + 1) = ((i + 1 : Nat) : Int) := by rw [wrap_in (by omega) (by omega)]; omega
  obtain ⟨e0, e1, e2, e3, rfl, he0, he1, he2, he3⟩ := dig4 hdg
  have he0' : (e0 : Int) < 10 := by omega
  have ge0 : e0 ≤ 9 := by omega
  have he1' : (e1 : Int) < 10 := by omega
  have ge1 : e1 ≤ 9 := by omega
  have he2' : (e2 : Int) < 10 := by omega
  have ge2 : e2 ≤ 9 := by omega
  have he3' : (e3 : Int) < 10 := by omega
  have ge3 : e3 ≤ 9 := by omega
  have hg1 : dgT [(e0 : Int), (e1 : Int), (e2 : Int), (e3 : Int)] = .sl [.int .i64 e0, .int .i64 e1, .int .i64 e2, .int .i64 e3] 4 true := rfl
  by_cases h0 : i = 0
  ·subst h0
   rw [List.take_zero, List.nil_append] at hts
   have z0 := zer_at he0
   have y0 := zer_set [(e0 : Int), (e1 : Int), (e2 : Int), (e3 : Int)] 0 he0 rfl
   have z1 := zer_at he1
   have y1 := zer_set [(e0 : Int), (e1 : Int), (e2 : Int), (e3 : Int)] 1 he1 rfl
   have z2 := zer_at he2
   have y2 := zer_set [(e0 : Int), (e1 : Int), (e2 : Int), (e3 : Int)] 2 he2 rfl
   have z3 := zer_at he3
   have y3 := zer_set [(e0 : Int), (e1 : Int), (e2 : Int), (e3 : Int)] 3 he3 rfl
   simp (decide := true) (implicitDefEqProofs := false) (maxSteps := 4000000) only [go_sem, hg1]
   refine pwpC_loopU (A := { k : Nat // k ≤ 4 }) [5, 6, 31, 32] (fun k => [(33, .t (.int .i64 k.1))]) (fun k => match k.1 with | 0 => [(4, .mpk 106 [] [])] | 1 => [(4, .mpk 106 [plT a0] [.ptr 8 0]), (8, .box (cntC [[(e0 : Int), (e1 : Int), (e2 : Int), (e3 : Int)]] 0))] | 2 => [(4, .mpk 106 [plT a0, plT a1] [.ptr 8 0, .ptr 9 0]), (8, .box (cntC [[(e0 : Int), (e1 : Int), (e2 : Int), (e3 : Int)]] 0)), (9, .box (cntC [[(e0 : Int), (e1 : Int), (e2 : Int), (e3 : Int)]] 1))] | 3 => [(4, .mpk 106 [plT a0, plT a1, plT a2] [.ptr 8 0, .ptr 9 0, .ptr 10 0]), (8, .box (cntC [[(e0 : Int), (e1 : Int), (e2 : Int), (e3 : Int)]] 0)), (9, .box (cntC [[(e0 : Int), (e1 : Int), (e2 : Int), (e3 : Int)]] 1)), (10, .box (cntC [[(e0 : Int), (e1 : Int), (e2 : Int), (e3 : Int)]] 2))] | _ => [(4, .mpk 106 [plT a0, plT a1, plT a2, plT a3] [.ptr 8 0, .ptr 9 0, .ptr 10 0, .ptr 11 0]), (8, .box (cntC [[(e0 : Int), (e1 : Int), (e2 : Int), (e3 : Int)]] 0)), (9, .box (cntC [[(e0 : Int), (e1 : Int), (e2 : Int), (e3 : Int)]] 1)), (10, .box (cntC [[(e0 : Int), (e1 : Int), (e2 : Int), (e3 : Int)]] 2)), (11, .box (cntC [[(e0 : Int), (e1 : Int), (e2 : Int), (e3 : Int)]] 3))]) (fun k => 4 - k.1) ⟨0, by omega⟩ (by decide) (fun _ => by rfl) ?_ fun Q1 hQ1 ⟨k, hk⟩ I1 hI1 => ?_
   ·simp (decide := true) (implicitDefEqProofs := false) (maxSteps := 4000000) only [go_sem, w11]
    first | done | trace_state
   ·rcases (by omega : k = 0 ∨ k = 1 ∨ k = 2 ∨ k = 3 ∨ k = 4) with rfl | rfl | rfl | rfl | rfl
    ·simp (decide := true) (implicitDefEqProofs := false) (maxSteps := 4000000) only [go_sem, hT, plC, plT, he0', Nat.mul_one, key_pp, und_pp, w11, z0, y0, ge0, hcw, hau]
     refine hI1 _ ⟨1, by omega⟩ (by simp only; omega) ?_
     simp (decide := true) (implicitDefEqProofs := false) (maxSteps := 4000000) only [go_sem, hT, plC, plT, hcw, hau, w11]
     first | done | trace_state
    ·simp (decide := true) (implicitDefEqProofs := false) (maxSteps := 4000000) only [go_sem, hT, plC, plT, he1', Nat.mul_one, key_pp, und_pp, w11, z1, y1, ge1, hcw, hau, nf01]
     refine hI1 _ ⟨2, by omega⟩ (by simp only; omega) ?_
     simp (decide := true) (implicitDefEqProofs := false) (maxSteps := 4000000) only [go_sem, hT, plC, plT, hcw, hau, w11]
     first | done | trace_state
    ·simp (decide := true) (implicitDefEqProofs := false) (maxSteps := 4000000) only [go_sem, hT, plC, plT, he2', Nat.mul_one, key_pp, und_pp, w11, z2, y2, ge2, hcw, hau, nf02, nf12]
     refine hI1 _ ⟨3, by omega⟩ (by simp only; omega) ?_
     simp (decide := true) (implicitDefEqProofs := false) (maxSteps := 4000000) only [go_sem, hT, plC, plT, hcw, hau, w11]
     first | done | trace_state
    ·simp (decide := true) (implicitDefEqProofs := false) (maxSteps := 4000000) only [go_sem, hT, plC, plT, he3', Nat.mul_one, key_pp, und_pp, w11, z3, y3, ge3, hcw, hau, nf03, nf13, nf23]
     refine hI1 _ ⟨4, by omega⟩ (by simp only; omega) ?_
     simp (decide := true) (implicitDefEqProofs := false) (maxSteps := 4000000) only [go_sem, hT, plC, plT, hcw, hau, w11]
     first | done | trace_state
    ·simp (decide := true) (implicitDefEqProofs := false) (maxSteps := 4000000) only [go_sem]
     refine hQ1 _ _ ?_
     simp (decide := true) (implicitDefEqProofs := false) (maxSteps := 4000000) only [go_sem, hts, hcw, hau]
     first | done | trace_state
  ·obtain ⟨ys, hys⟩ : ∃ ys, (readG p).take i = ys := ⟨_, rfl⟩
   rw [hys] at hts
   have hyl : ys.length ≤ 100000 := by rw [← hys, List.length_take]; omega
   have z0 := cntC_at ys 0 he0
   have y0 := cnt_set ys [(e0 : Int), (e1 : Int), (e2 : Int), (e3 : Int)] 0 he0 rfl
   have x0 := cnt_wrap 0 (e0 : Int) hyl
   have z1 := cntC_at ys 1 he1
   have y1 := cnt_set ys [(e0 : Int), (e1 : Int), (e2 : Int), (e3 : Int)] 1 he1 rfl
   have x1 := cnt_wrap 1 (e1 : Int) hyl
   have z2 := cntC_at ys 2 he2
   have y2 := cnt_set ys [(e0 : Int), (e1 : Int), (e2 : Int), (e3 : Int)] 2 he2 rfl
   have x2 := cnt_wrap 2 (e2 : Int) hyl
   have z3 := cntC_at ys 3 he3
   have y3 := cnt_set ys [(e0 : Int), (e1 : Int), (e2 : Int), (e3 : Int)] 3 he3 rfl
   have x3 := cnt_wrap 3 (e3 : Int) hyl
   have ht9 := cntC_len ys
   simp (decide := true) (implicitDefEqProofs := false) (maxSteps := 4000000) only [go_sem, h0, hg1, hi1, hys]
   refine pwpC_loopU (A := { k : Nat // k ≤ 4 }) [5, 6, 31, 32] (fun k => [(33, .t (.int .i64 k.1))]) (fun k => match k.1 with | 0 => [] | 1 => [(8, .box (cntC (ys ++ [[(e0 : Int), (e1 : Int), (e2 : Int), (e3 : Int)]]) 0))] | 2 => [(8, .box (cntC (ys ++ [[(e0 : Int), (e1 : Int), (e2 : Int), (e3 : Int)]]) 0)), (9, .box (cntC (ys ++ [[(e0 : Int), (e1 : Int), (e2 : Int), (e3 : Int)]]) 1))] | 3 => [(8, .box (cntC (ys ++ [[(e0 : Int), (e1 : Int), (e2 : Int), (e3 : Int)]]) 0)), (9, .box (cntC (ys ++ [[(e0 : Int), (e1 : Int), (e2 : Int), (e3 : Int)]]) 1)), (10, .box (cntC (ys ++ [[(e0 : Int), (e1 : Int), (e2 : Int), (e3 : Int)]]) 2))] | _ => [(8, .box (cntC (ys ++ [[(e0 : Int), (e1 : Int), (e2 : Int), (e3 : Int)]]) 0)), (9, .box (cntC (ys ++ [[(e0 : Int), (e1 : Int), (e2 : Int), (e3 : Int)]]) 1)), (10, .box (cntC (ys ++ [[(e0 : Int), (e1 : Int), (e2 : Int), (e3 : Int)]]) 2)), (11, .box (cntC (ys ++ [[(e0 : Int), (e1 : Int), (e2 : Int), (e3 : Int)]]) 3))]) (fun k => 4 - k.1) ⟨0, by omega⟩ (by decide) (fun _ => by rfl) ?_ fun Q1 hQ1 ⟨k, hk⟩ I1 hI1 => ?_
   ·simp (decide := true) (implicitDefEqProofs := false) (maxSteps := 4000000) only [go_sem, hcw, hau]
    first | done | trace_state
   ·rcases (by omega : k = 0 ∨ k = 1 ∨ k = 2 ∨ k = 3 ∨ k = 4) with rfl | rfl | rfl | rfl | rfl
    ·simp (decide := true) (implicitDefEqProofs := false) (maxSteps := 4000000) only [go_sem, hT, plC, plT, he0', Nat.mul_one, key_pp, und_pp, z0, x0, y0, ge0, ht9, hcw, hau]
     refine hI1 _ ⟨1, by omega⟩ (by simp only; omega) ?_
     simp (decide := true) (implicitDefEqProofs := false) (maxSteps := 4000000) only [go_sem, hT, plC, plT, hcw, hau]
     first | done | trace_state
    ·simp (decide := true) (implicitDefEqProofs := false) (maxSteps := 4000000) only [go_sem, hT, plC, plT, he1', Nat.mul_one, key_pp, und_pp, z1, x1, y1, ge1, ht9, hcw, hau, nf01]
     refine hI1 _ ⟨2, by omega⟩ (by simp only; omega) ?_
     simp (decide := true) (implicitDefEqProofs := false) (maxSteps := 4000000) only [go_sem, hT, plC, plT, hcw, hau]
     first | done | trace_state
    ·simp (decide := true) (implicitDefEqProofs := false) (maxSteps := 4000000) only [go_sem, hT, plC, plT, he2', Nat.mul_one, key_pp, und_pp, z2, x2, y2, ge2, ht9, hcw, hau, nf02, nf12]
     refine hI1 _ ⟨3, by omega⟩ (by simp only; omega) ?_
     simp (decide := true) (implicitDefEqProofs := false) (maxSteps := 4000000) only [go_sem, hT, plC, plT, hcw, hau]
     first | done | trace_state
    ·simp (decide := true) (implicitDefEqProofs := false) (maxSteps := 4000000) only [go_sem, hT, plC, plT, he3', Nat.mul_one, key_pp, und_pp, z3, x3, y3, ge3, ht9, hcw, hau, nf03, nf13, nf23]
     refine hI1 _ ⟨4, by omega⟩ (by simp only; omega) ?_
     simp (decide := true) (implicitDefEqProofs := false) (maxSteps := 4000000) only [go_sem, hT, plC, plT, hcw, hau]
     first | done | trace_state
    ·simp (decide := true) (implicitDefEqProofs := false) (maxSteps := 4000000) only [go_sem]
     refine hQ1 _ _ ?_
     simp (decide := true) (implicitDefEqProofs := false) (maxSteps := 4000000) only [go_sem, hts, hi1, hcw, hau]
     first | done | trace_state
 ·by_cases h0 : (readG p).length = 0
  ·rw [if_pos h0] at hR
   subst hR
   rw [h0]
   simp (decide := true) (implicitDefEqProofs := false) (maxSteps := 4000000) only [go_sem]
   first | done | trace_state
  ·rw [if_neg h0] at hR
   have hz : (((readG p).length : Int) == 0) = false := by simp; exact List.ne_nil_of_length_pos (by omega)
   by_cases h1 : (readG p).length = 1
   ·rw [if_pos h1] at hR
    subst hR
    rw [h1]
    simp (decide := true) (implicitDefEqProofs := false) (maxSteps := 4000000) only [go_sem]
    first | done | trace_state
   ·rw [if_neg h1] at hR
    have hz1 : (((readG p).length : Int) == 1) = false := by simp; omega
    rw [List.take_length]
    obtain ⟨ys, hys⟩ : ∃ ys, readG p = ys := ⟨_, rfl⟩
    rw [hys] at hR h0 hz hz1 hsz ⊢
    have hmo := fun k => mostTo_le ys k 10
    simp (decide := true) (implicitDefEqProofs := false) (maxSteps := 4000000) only [go_sem, h0, hz, hz1, hT, plC]
    refine pwpC_loopU (A := { k : Nat // k ≤ 4 }) [2, 6, 77, 78] (fun k => [(79, .t (.int .i64 k.1)), (3, .t (.int .i64 (askTo ys [a0, a1, a2, a3] k.1).2))]) (fun k => [(0, .box ((plC (askTo ys [a0, a1, a2, a3] k.1).1).map .t))]) (fun k => 4 - k.1) ⟨0, by omega⟩ (by decide) (fun _ => by rfl) ?_ fun Q1 hQ1 ⟨k, hk⟩ I1 hI1 => ?_
    ·simp (decide := true) (implicitDefEqProofs := false) (maxSteps := 4000000) only [go_sem, askTo, plC, hcw, hau]
     first | done | trace_state
    ·obtain ⟨⟨at0, left⟩, hat⟩ : ∃ q, askTo ys [a0, a1, a2, a3] k = q := ⟨_, rfl⟩
     have has : askTo ys [a0, a1, a2, a3] (k + 1) = if left = 0 ∨ mostTo ys k 10 < left then ([a0, a1, a2, a3].getD k (0, 0, 0), mostTo ys k 10) else (at0, left) := by
      show (if _ then _ else _) = _
      rw [hat]
     rcases (by omega : k = 0 ∨ k = 1 ∨ k = 2 ∨ k = 3 ∨ k = 4) with rfl | rfl | rfl | rfl | rfl
     ·simp only [hat]
      simp (decide := true) (implicitDefEqProofs := false) (maxSteps := 4000000) only [go_sem, plC, plT, key_pp]
      refine pwpC_loopU (A := { d : Nat // d ≤ 10 }) [2, 3, 6, 12, 77, 78, 79, 85] (fun d => [(86, .t (.int .i64 d.1)), (13, .t (.int .i64 (mostTo ys 0 d.1)))]) (fun _ => []) (fun d => 10 - d.1) ⟨0, by omega⟩ (by decide) (fun _ => by rfl) ?_ fun Q2 hQ2 ⟨d, hd⟩ I2 hI2 => ?_
      ·simp (decide := true) (implicitDefEqProofs := false) (maxSteps := 4000000) only [go_sem, mostTo, plT, plC, hcw, hau]
       first | done | trace_state
      ·by_cases hlt : (d : Int) < 10
       ·have hd1 : IntKind.i64.wrap ((d : Int) + 1) = ((d + 1 : Nat) : Int) := by rw [wrap_in (by omega) (by omega)]; omega
        have z := cntC_at ys 0 (show d < 10 by omega)
        have hmx : max (mostTo ys 0 d : Int) (cntD ys 0 (d : Int)) = ((mostTo ys 0 (d + 1) : Nat) : Int) := by
         show _ = ((max (mostTo ys 0 d) (cntD ys 0 (d : Int)) : Nat) : Int)
         omega
        simp (decide := true) (implicitDefEqProofs := false) (maxSteps := 4000000) only [go_sem, hlt, z, hmx]
        refine hI2 _ ⟨d + 1, by omega⟩ (by simp only; omega) ?_
        simp (decide := true) (implicitDefEqProofs := false) (maxSteps := 4000000) only [go_sem, hd1, plT, plC, hcw, hau]
        first | done | trace_state
       ·have hde : d = 10 := by omega
        subst hde
        simp (decide := true) (implicitDefEqProofs := false) (maxSteps := 4000000) only [go_sem]
        refine hQ2 _ _ ?_
        have hm0 := hmo 0
        by_cases hl0 : left = 0
        ·rw [if_pos (.inl hl0)] at has
         subst hl0
         simp (decide := true) (implicitDefEqProofs := false) (maxSteps := 4000000) only [go_sem, plC]
         refine hI1 _ ⟨1, by omega⟩ (by simp only; omega) ?_
         simp (decide := true) (implicitDefEqProofs := false) (maxSteps := 4000000) only [go_sem, has, plC, plT, hcw, hau]
         first | done | trace_state
        ·have hl0' : ((left : Int) == 0) = false := by simp; exact hl0
         by_cases hlm : mostTo ys 0 10 < left
         ·rw [if_pos (.inr hlm)] at has
          have hlm' : ((mostTo ys 0 10 : Nat) : Int) < (left : Int) := by omega
          simp (decide := true) (implicitDefEqProofs := false) (maxSteps := 4000000) only [go_sem, plC, hl0', hlm']
          refine hI1 _ ⟨1, by omega⟩ (by simp only; omega) ?_
          simp (decide := true) (implicitDefEqProofs := false) (maxSteps := 4000000) only [go_sem, has, plC, plT, hcw, hau]
          first | done | trace_state
         ·rw [if_neg (fun h => h.elim hl0 hlm)] at has
          have hlm' : ¬ ((mostTo ys 0 10 : Nat) : Int) < (left : Int) := by omega
          simp (decide := true) (implicitDefEqProofs := false) (maxSteps := 4000000) only [go_sem, plC, hl0', hlm']
          refine hI1 _ ⟨1, by omega⟩ (by simp only; omega) ?_
          simp (decide := true) (implicitDefEqProofs := false) (maxSteps := 4000000) only [go_sem, has, plC, plT, hcw, hau]
          first | done | trace_state
     ·simp only [hat]
      simp (decide := true) (implicitDefEqProofs := false) (maxSteps := 4000000) only [go_sem, plC, plT, key_pp, nf01]
      refine pwpC_loopU (A := { d : Nat // d ≤ 10 }) [2, 3, 6, 12, 77, 78, 79, 85] (fun d => [(86, .t (.int .i64 d.1)), (13, .t (.int .i64 (mostTo ys 1 d.1)))]) (fun _ => []) (fun d => 10 - d.1) ⟨0, by omega⟩ (by decide) (fun _ => by rfl) ?_ fun Q2 hQ2 ⟨d, hd⟩ I2 hI2 => ?_
      ·simp (decide := true) (implicitDefEqProofs := false) (maxSteps := 4000000) only [go_sem, mostTo, plT, plC, hcw, hau]
       first | done | trace_state
      ·by_cases hlt : (d : Int) < 10
       ·have hd1 : IntKind.i64.wrap ((d : Int) + 1) = ((d + 1 : Nat) : Int) := by rw [wrap_in (by omega) (by omega)]; omega
        have z := cntC_at ys 1 (show d < 10 by omega)
        have hmx : max (mostTo ys 1 d : Int) (cntD ys 1 (d : Int)) = ((mostTo ys 1 (d + 1) : Nat) : Int) := by
         show _ = ((max (mostTo ys 1 d) (cntD ys 1 (d : Int)) : Nat) : Int)
         omega
        simp (decide := true) (implicitDefEqProofs := false) (maxSteps := 4000000) only [go_sem, hlt, z, hmx]
        refine hI2 _ ⟨d + 1, by omega⟩ (by simp only; omega) ?_
        simp (decide := true) (implicitDefEqProofs := false) (maxSteps := 4000000) only [go_sem, hd1, plT, plC, hcw, hau]
        first | done | trace_state
       ·have hde : d = 10 := by omega
        subst hde
        simp (decide := true) (implicitDefEqProofs := false) (maxSteps := 4000000) only [go_sem]
        refine hQ2 _ _ ?_
        have hm0 := hmo 1
        by_cases hl0 : left = 0
        ·rw [if_pos (.inl hl0)] at has
         subst hl0
         simp (decide := true) (implicitDefEqProofs := false) (maxSteps := 4000000) only [go_sem, plC]
         refine hI1 _ ⟨2, by omega⟩ (by simp only; omega) ?_
         simp (decide := true) (implicitDefEqProofs := false) (maxSteps := 4000000) only [go_sem, has, plC, plT, hcw, hau]
         first | done | trace_state
        ·have hl0' : ((left : Int) == 0) = false := by simp; exact hl0
         by_cases hlm : mostTo ys 1 10 < left
         ·rw [if_pos (.inr hlm)] at has
          have hlm' : ((mostTo ys 1 10 : Nat) : Int) < (left : Int) := by omega
          simp (decide := true) (implicitDefEqProofs := false) (maxSteps := 4000000) only [go_sem, plC, hl0', hlm']
          refine hI1 _ ⟨2, by omega⟩ (by simp only; omega) ?_
          simp (decide := true) (implicitDefEqProofs := false) (maxSteps := 4000000) only [go_sem, has, plC, plT, hcw, hau]
          first | done | trace_state
         ·rw [if_neg (fun h => h.elim hl0 hlm)] at has
          have hlm' : ¬ ((mostTo ys 1 10 : Nat) : Int) < (left : Int) := by omega
          simp (decide := true) (implicitDefEqProofs := false) (maxSteps := 4000000) only [go_sem, plC, hl0', hlm']
          refine hI1 _ ⟨2, by omega⟩ (by simp only; omega) ?_
          simp (decide := true) (implicitDefEqProofs := false) (maxSteps := 4000000) only [go_sem, has, plC, plT, hcw, hau]
          first | done | trace_state
     ·simp only [hat]
      simp (decide := true) (implicitDefEqProofs := false) (maxSteps := 4000000) only [go_sem, plC, plT, key_pp, nf02, nf12]
      refine pwpC_loopU (A := { d : Nat // d ≤ 10 }) [2, 3, 6, 12, 77, 78, 79, 85] (fun d => [(86, .t (.int .i64 d.1)), (13, .t (.int .i64 (mostTo ys 2 d.1)))]) (fun _ => []) (fun d => 10 - d.1) ⟨0, by omega⟩ (by decide) (fun _ => by rfl) ?_ fun Q2 hQ2 ⟨d, hd⟩ I2 hI2 => ?_
      ·simp (decide := true) (implicitDefEqProofs := false) (maxSteps := 4000000) only [go_sem, mostTo, plT, plC, hcw, hau]
       first | done | trace_state
      ·by_cases hlt : (d : Int) < 10
       ·have hd1 : IntKind.i64.wrap ((d : Int) + 1) = ((d + 1 : Nat) : Int) := by rw [wrap_in (by omega) (by omega)]; omega
        have z := cntC_at ys 2 (show d < 10 by omega)
        have hmx : max (mostTo ys 2 d : Int) (cntD ys 2 (d : Int)) = ((mostTo ys 2 (d + 1) : Nat) : Int) := by
         show _ = ((max (mostTo ys 2 d) (cntD ys 2 (d : Int)) : Nat) : Int)
         omega
        simp (decide := true) (implicitDefEqProofs := false) (maxSteps := 4000000) only [go_sem, hlt, z, hmx]
        refine hI2 _ ⟨d + 1, by omega⟩ (by simp only; omega) ?_
        simp (decide := true) (implicitDefEqProofs := false) (maxSteps := 4000000) only [go_sem, hd1, plT, plC, hcw, hau]
        first | done | trace_state
       ·have hde : d = 10 := by omega
        subst hde
        simp (decide := true) (implicitDefEqProofs := false) (maxSteps := 4000000) only [go_sem]
        refine hQ2 _ _ ?_
        have hm0 := hmo 2
        by_cases hl0 : left = 0
        ·rw [if_pos (.inl hl0)] at has
         subst hl0
         simp (decide := true) (implicitDefEqProofs := false) (maxSteps := 4000000) only [go_sem, plC]
         refine hI1 _ ⟨3, by omega⟩ (by simp only; omega) ?_
         simp (decide := true) (implicitDefEqProofs := false) (maxSteps := 4000000) only [go_sem, has, plC, plT, hcw, hau]
         first | done | trace_state
        ·have hl0' : ((left : Int) == 0) = false := by simp; exact hl0
         by_cases hlm : mostTo ys 2 10 < left
         ·rw [if_pos (.inr hlm)] at has
          have hlm' : ((mostTo ys 2 10 : Nat) : Int) < (left : Int) := by omega
          simp (decide := true) (implicitDefEqProofs := false) (maxSteps := 4000000) only [go_sem, plC, hl0', hlm']
          refine hI1 _ ⟨3, by omega⟩ (by simp only; omega) ?_
          simp (decide := true) (implicitDefEqProofs := false) (maxSteps := 4000000) only [go_sem, has, plC, plT, hcw, hau]
          first | done | trace_state
         ·rw [if_neg (fun h => h.elim hl0 hlm)] at has
          have hlm' : ¬ ((mostTo ys 2 10 : Nat) : Int) < (left : Int) := by omega
          simp (decide := true) (implicitDefEqProofs := false) (maxSteps := 4000000) only [go_sem, plC, hl0', hlm']
          refine hI1 _ ⟨3, by omega⟩ (by simp only; omega) ?_
          simp (decide := true) (implicitDefEqProofs := false) (maxSteps := 4000000) only [go_sem, has, plC, plT, hcw, hau]
          first | done | trace_state
     ·simp only [hat]
      simp (decide := true) (implicitDefEqProofs := false) (maxSteps := 4000000) only [go_sem, plC, plT, key_pp, nf03, nf13, nf23]
      refine pwpC_loopU (A := { d : Nat // d ≤ 10 }) [2, 3, 6, 12, 77, 78, 79, 85] (fun d => [(86, .t (.int .i64 d.1)), (13, .t (.int .i64 (mostTo ys 3 d.1)))]) (fun _ => []) (fun d => 10 - d.1) ⟨0, by omega⟩ (by decide) (fun _ => by rfl) ?_ fun Q2 hQ2 ⟨d, hd⟩ I2 hI2 => ?_
      ·simp (decide := true) (implicitDefEqProofs := false) (maxSteps := 4000000) only [go_sem, mostTo, plT, plC, hcw, hau]
       first | done | trace_state
      ·by_cases hlt : (d : Int) < 10
       ·have hd1 : IntKind.i64.wrap ((d : Int) + 1) = ((d + 1 : Nat) : Int) := by rw [wrap_in (by omega) (by omega)]; omega
        have z := cntC_at ys 3 (show d < 10 by omega)
        have hmx : max (mostTo ys 3 d : Int) (cntD ys 3 (d : Int)) = ((mostTo ys 3 (d + 1) : Nat) : Int) := by
         show _ = ((max (mostTo ys 3 d) (cntD ys 3 (d : Int)) : Nat) : Int)
         omega
        simp (decide := true) (implicitDefEqProofs := false) (maxSteps := 4000000) only [go_sem, hlt, z, hmx]
        refine hI2 _ ⟨d + 1, by omega⟩ (by simp only; omega) ?_
        simp (decide := true) (implicitDefEqProofs := false) (maxSteps := 4000000) only [go_sem, hd1, plT, plC, hcw, hau]
        first | done | trace_state
       ·have hde : d = 10 := by omega
        subst hde
        simp (decide := true) (implicitDefEqProofs := false) (maxSteps := 4000000) only [go_sem]
        refine hQ2 _ _ ?_
        have hm0 := hmo 3
        by_cases hl0 : left = 0
        ·rw [if_pos (.inl hl0)] at has
         subst hl0
         simp (decide := true) (implicitDefEqProofs := false) (maxSteps := 4000000) only [go_sem, plC]
         refine hI1 _ ⟨4, by omega⟩ (by simp only; omega) ?_
         simp (decide := true) (implicitDefEqProofs := false) (maxSteps := 4000000) only [go_sem, has, plC, plT, hcw, hau]
         first | done | trace_state
        ·have hl0' : ((left : Int) == 0) = false := by simp; exact hl0
         by_cases hlm : mostTo ys 3 10 < left
         ·rw [if_pos (.inr hlm)] at has
          have hlm' : ((mostTo ys 3 10 : Nat) : Int) < (left : Int) := by omega
          simp (decide := true) (implicitDefEqProofs := false) (maxSteps := 4000000) only [go_sem, plC, hl0', hlm']
          refine hI1 _ ⟨4, by omega⟩ (by simp only; omega) ?_
          simp (decide := true) (implicitDefEqProofs := false) (maxSteps := 4000000) only [go_sem, has, plC, plT, hcw, hau]
          first | done | trace_state
         ·rw [if_neg (fun h => h.elim hl0 hlm)] at has
          have hlm' : ¬ ((mostTo ys 3 10 : Nat) : Int) < (left : Int) := by omega
          simp (decide := true) (implicitDefEqProofs := false) (maxSteps := 4000000) only [go_sem, plC, hl0', hlm']
          refine hI1 _ ⟨4, by omega⟩ (by simp only; omega) ?_
          simp (decide := true) (implicitDefEqProofs := false) (maxSteps := 4000000) only [go_sem, has, plC, plT, hcw, hau]
          first | done | trace_state
     ·simp only [hat]
      simp (decide := true) (implicitDefEqProofs := false) (maxSteps := 4000000) only [go_sem]
      refine hQ1 _ _ ?_
      have hR2 : R = .tup [plT at0, .int .i64 left, .int .i64 0] := by
       rw [← hR]
       show TV.tup [plT (askTo ys [a0, a1, a2, a3] 4).1, .int .i64 (askTo ys [a0, a1, a2, a3] 4).2, .int .i64 0] = _
       rw [hat]
      simp (decide := true) (implicitDefEqProofs := false) (maxSteps := 4000000) only [go_sem, hR2, plT, plC]
      first | done | trace_state
end Go.Proofs.YtdkboibnokipaaaDoor

/- Part W4. -/
namespace Go.Ow
open Go Go.RowKit Go.Pm
end Go.Ow
namespace Go.Proofs.YtdkboibnokipaaaDoor
open Go.RowKit Go.Pm Go.Ow
set_option maxRecDepth 100000
set_option linter.unusedVariables false
set_option maxHeartbeats 8000000
end Go.Proofs.YtdkboibnokipaaaDoor

/- Part Wd. -/
namespace Go.Ow
open Go Go.Pm
structure WRec where
 kind : Int
 day : Int
 num : Int
 by_ : ByteArray
 new : Int
def recT (r : WRec) : List TV := [.int .i64 r.kind, .int .i64 r.day, .int .i64 r.num, .str r.by_, .int .i64 r.new]
def recL (l : List WRec) : List TV := l.flatMap recT
theorem recL_cons (r : WRec) (l : List WRec) : recL (r :: l) = recT r ++ recL l := by simp [recL]
theorem recL_drop : ∀ (l : List WRec) (k : Nat), (recL l).drop (k * 5) = recL (l.drop k)
 | l, 0 => by simp
 | [], k + 1 => by simp [recL]
 | r :: l, k + 1 => by
  rw [recL_cons, List.drop_succ_cons, ← recL_drop l k]
  have e : (k + 1) * 5 = 5 + k * 5 := by omega
  rw [e, ← List.drop_drop]
  rfl
theorem recL_at {l : List WRec} {k : Nat} {r : WRec} (h : l[k]? = some r) : (recL l).drop (k * 5) = recT r ++ recL (l.drop (k + 1)) := by
 rw [recL_drop]
 have hk := (List.getElem?_eq_some_iff.1 h).1
 rw [List.drop_eq_getElem_cons hk, recL_cons]
 have := List.getElem?_eq_getElem hk
 rw [h] at this
 rw [← Option.some.inj this]
theorem recL_len (l : List WRec) : (recL l).length = l.length * 5 := by
 induction l with
 | nil => rfl
 | cons r l ih => rw [recL_cons, List.length_append, ih]; simp [recT]; omega
def metP (l : List WRec) (n : Int) : Bool := l.any fun r => r.num == n || r.new == n
end Go.Ow
namespace Go.Proofs.YtdkboibnokipaaaDoor
open Go.RowKit Go.Pm Go.Ow
set_option maxRecDepth 100000
set_option linter.unusedVariables false
theorem wMet_c (l : List WRec) (f : Bool) (n : Int) (b : Nat) (hb : b ≤ l.length) (hl : l.length ≤ 1000000) : PCalls Tryd.prog 166 [.sl (recL l) l.length f, .int .i64 n, .int .i64 b] (.bool (metP (l.take b) n)) := by
 refine pcalls_by Tryd.mixes noSpec_ok (fn := Tryd.f166) Tryd.func166 rfl (by kernel_rfl) (by show 3 ≤ _; decide) ?_
 have h1 : (b : Int) ≤ l.length := by omega
 have h2 := recL_len l
 have h3 : (recL l).take (b * 5) = recL (l.take b) := by
  have e : recL l = recL (l.take b) ++ recL (l.drop b) := by unfold recL; rw [← List.flatMap_append, List.take_append_drop]
  rw [e]
  have e2 : b * 5 = (recL (l.take b)).length := by rw [recL_len, List.length_take, Nat.min_eq_left hb]
  rw [e2, List.take_left]
 simp (decide := true) (maxSteps := 4000000) only [go_sem, Tryd.f166, h1, h2, h3]
 have hML : (l.take b).length = b := by rw [List.length_take, Nat.min_eq_left hb]
 generalize l.take b = M at *
 refine pwpC_loopU (A := { k : Nat // k ≤ b ∧ ∀ (j : Nat) (r : WRec), j < k → M[j]? = some r → (r.num == n || r.new == n) = false }) [1, 11, 12] (fun k => [(13, .t (.int .i64 k.1))]) (fun _ => []) (fun k => b - k.1) ⟨0, Nat.zero_le _, fun j x hj => absurd hj (by omega)⟩ (by decide) (fun _ => by rfl) ?_ fun Q1 hQ1 ⟨k, hk, hall⟩ I1 hI1 => ?_
 ·simp (decide := true) (maxSteps := 4000000) only [go_sem]
 ·by_cases hlt : (k : Int) < b
  ·obtain ⟨r, hr⟩ : ∃ r, M[k]? = some r := ⟨_, List.getElem?_eq_getElem (by omega)⟩
   have d1 := recL_at hr
   have hk1 : IntKind.i64.wrap ((k : Int) + 1) = ((k + 1 : Nat) : Int) := by rw [wrap_in (by omega) (by omega)]; omega
   cases c : (r.num == n || r.new == n) with
   | true =>
    have ea : metP M n = true := by unfold metP; rw [List.any_eq_true]; exact ⟨r, List.mem_of_getElem? hr, c⟩
    cases c1 : (r.num == n) with
    | true =>
     simp (decide := true) (maxSteps := 4000000) only [go_sem, hlt, d1, recT, c1]
     refine hQ1 _ _ ?_
     simp (decide := true) (maxSteps := 4000000) only [go_sem, ea]
    | false =>
     have c2 : (r.new == n) = true := by rw [c1] at c; simpa using c
     simp (decide := true) (maxSteps := 4000000) only [go_sem, hlt, d1, recT, c1, c2]
     refine hQ1 _ _ ?_
     simp (decide := true) (maxSteps := 4000000) only [go_sem, ea]
   | false =>
    have hc := Bool.or_eq_false_iff.1 c
    simp (decide := true) (maxSteps := 4000000) only [go_sem, hlt, d1, recT, hc.1, hc.2, hk1]
    refine hI1 _ ⟨k + 1, by omega, fun j x hj hx => ?_⟩ (by simp only; omega) ?_
    ·rcases Nat.lt_or_ge j k with h | h
     ·exact hall j x h hx
     ·have : j = k := by omega
      subst this; rw [hr] at hx; cases hx; exact c
    ·simp (decide := true) (maxSteps := 4000000) only [go_sem]
  ·simp (decide := true) (maxSteps := 4000000) only [go_sem, hlt]
   refine hQ1 _ _ ?_
   have ea : metP M n = false := by
    unfold metP
    rw [List.any_eq_false]
    intro x hx
    obtain ⟨j, hj, rfl⟩ := List.getElem_of_mem hx
    simpa using hall j _ (by omega) (List.getElem?_eq_getElem hj)
   simp (decide := true) (maxSteps := 4000000) only [go_sem, ea]
end Go.Proofs.YtdkboibnokipaaaDoor

/- Part We. -/
namespace Go.Ow
open Go Go.Pm
def usedP (l : List WRec) (n : Int) : Nat → Bool
 | 0 => false
 | k + 1 => match l[k]? with
  | none => false
  | some r => if n == r.new then r.kind == 3 else if n == r.num then r.kind == 1 || r.kind == 2 else usedP l n k
end Go.Ow
namespace Go.Proofs.YtdkboibnokipaaaDoor
open Go.RowKit Go.Pm Go.Ow
set_option maxRecDepth 100000
set_option linter.unusedVariables false
theorem wUsed_c (l : List WRec) (f : Bool) (n : Int) (b : Nat) (hb : b ≤ l.length) (hl : l.length ≤ 1000000) : PCalls Tryd.prog 167 [.sl (recL l) l.length f, .int .i64 n, .int .i64 b] (.bool (usedP l n b)) := by
 refine pcalls_by Tryd.mixes (Spec.gdt_ok noSpec_ok) (fn := Tryd.f167) Tryd.func167 rfl (by kernel_rfl) (by show 3 ≤ _; decide) ?_
 have hw : IntKind.i64.wrap ((b : Int) - 1) = (b : Int) - 1 := wrap_in (by omega) (by omega)
 simp (decide := true) (maxSteps := 4000000) only [go_sem, Tryd.f167, hw]
 refine pwpC_loopU (A := { k : Nat // k ≤ b ∧ usedP l n b = usedP l n k }) [0, 1] (fun k => [(7, .t (.int .i64 ((k.1 : Int) - 1)))]) (fun _ => []) (fun k => k.1) ⟨b, Nat.le_refl _, rfl⟩ (by decide) (fun _ => by rfl) ?_ fun Q1 hQ1 ⟨k, hk, hu⟩ I1 hI1 => ?_
 ·simp (decide := true) (maxSteps := 4000000) only [go_sem]
 ·rw [hu] at hQ1
  cases k with
  | zero =>
   have hn : ¬ ((0 : Nat) : Int) - 1 ≥ 0 := by omega
   simp (decide := true) (maxSteps := 4000000) only [go_sem, hn]
   refine hQ1 _ _ ?_
   simp (decide := true) (maxSteps := 4000000) only [go_sem, usedP]
  | succ k =>
   have e1 : ((k + 1 : Nat) : Int) - 1 = (k : Int) := by omega
   have hge : (k : Int) ≥ 0 := by omega
   have hlt : (k : Int) < l.length := by omega
   have hw2 : IntKind.i64.wrap ((k : Int) - 1) = (k : Int) - 1 := wrap_in (by omega) (by omega)
   obtain ⟨r, hr⟩ : ∃ r, l[k]? = some r := ⟨_, List.getElem?_eq_getElem (by omega)⟩
   have d1 := recL_at hr
   cases c1 : (n == r.new) with
   | true =>
    have ea : usedP l n (k + 1) = (r.kind == 3) := by simp only [usedP, hr, c1, if_true]
    simp (decide := true) (maxSteps := 4000000) only [go_sem, e1, hge, hlt, d1, recT, c1, hw2]
    refine hQ1 _ _ ?_
    simp (decide := true) (maxSteps := 4000000) only [go_sem, ea]
   | false =>
    cases c2 : (n == r.num) with
    | true =>
     have ea : usedP l n (k + 1) = (r.kind == 1 || r.kind == 2) := by simp [usedP, hr, c1, c2]
     cases c3 : (r.kind == 1) with
     | true =>
      rw [c3, Bool.true_or] at ea
      simp (decide := true) (maxSteps := 4000000) only [go_sem, e1, hge, hlt, d1, recT, c1, c2, c3, hw2]
      refine hQ1 _ _ ?_
      simp (decide := true) (maxSteps := 4000000) only [go_sem, ea]
     | false =>
      rw [c3, Bool.false_or] at ea
      simp (decide := true) (maxSteps := 4000000) only [go_sem, e1, hge, hlt, d1, recT, c1, c2, c3, hw2]
      refine hQ1 _ _ ?_
      simp (decide := true) (maxSteps := 4000000) only [go_sem, ea]
    | false =>
     have ea : usedP l n (k + 1) = usedP l n k := by simp [usedP, hr, c1, c2]
     simp (decide := true) (maxSteps := 4000000) only [go_sem, e1, hge, hlt, d1, recT, c1, c2, hw2]
     refine hI1 _ ⟨k, by omega, hu.trans ea⟩ (by simp only; omega) ?_
     simp (decide := true) (maxSteps := 4000000) only [go_sem]
end Go.Proofs.YtdkboibnokipaaaDoor

/- Part Wp1. -/
namespace Go.Ow
open Go Go.Pm

def kindP (l : List WRec) (k : Nat) (r : WRec) : Bool :=
 if r.kind == 1 then nameB r.by_ && (r.new == 0 && !metP (l.take k) r.num)
 else if r.kind == 2 then nameB r.by_ && (r.new == 0 && usedP l r.num k)
 else if r.kind == 3 then decide (r.by_.size = 0) && (inW r.new 1 99999 && (r.new != r.num && (!metP (l.take k) r.new && usedP l r.num k)))
 else decide (r.by_.size = 0) && (r.new == 0 && usedP l r.num k)
def recP (l : List WRec) (k : Nat) (d : Int) (r : WRec) : Bool := inW r.kind 1 4 && (inW r.day d 100000 && (inW r.num 1 99999 && kindP l k r))
def dayB (l : List WRec) : Nat → Int
 | 0 => 0
 | k + 1 => match l[k]? with | some r => r.day | none => 0
def okTo (l : List WRec) : Nat → Bool
 | 0 => true
 | k + 1 => okTo l k && (match l[k]? with | some r => recP l k (dayB l k) r | none => false)
def bookB (l : List WRec) : Bool := decide (l.length ≤ 40) && okTo l l.length

def cur (l : List WRec) : Nat → Int → Option Nat
 | 0, _ => none
 | k + 1, n => match l[k]? with
  | none => cur l k n
  | some r => if r.kind = 1 ∧ r.num = n then some k
   else if r.kind = 3 ∧ r.new = n then cur l k r.num
   else if (r.kind = 3 ∨ r.kind = 4) ∧ r.num = n then none
   else cur l k n

structure RecOk (l : List WRec) (k : Nat) (r : WRec) : Prop where
 kind : r.kind = 1 ∨ r.kind = 2 ∨ r.kind = 3 ∨ r.kind = 4
 day : dayB l k ≤ r.day ∧ r.day ≤ 100000
 num : 1 ≤ r.num ∧ r.num ≤ 99999
 made : r.kind = 1 → nameB r.by_ = true ∧ r.new = 0 ∧ metP (l.take k) r.num = false
 mend : r.kind = 2 → nameB r.by_ = true ∧ r.new = 0 ∧ usedP l r.num k = true
 again : r.kind = 3 → r.by_.size = 0 ∧ (1 ≤ r.new ∧ r.new ≤ 99999) ∧ r.new ≠ r.num ∧ metP (l.take k) r.new = false ∧ usedP l r.num k = true
 lost : r.kind = 4 → r.by_.size = 0 ∧ r.new = 0 ∧ usedP l r.num k = true
theorem inW_iff {n a b : Int} : inW n a b = true ↔ a ≤ n ∧ n ≤ b := by unfold inW; simp
theorem recP_ok {l : List WRec} {k : Nat} {d : Int} {r : WRec} (hd : d = dayB l k) (h : recP l k d r = true) : RecOk l k r := by
 subst hd
 unfold recP kindP at h
 simp only [Bool.and_eq_true, inW_iff] at h
 obtain ⟨h1, h2, h3, h4⟩ := h
 have hk : r.kind = 1 ∨ r.kind = 2 ∨ r.kind = 3 ∨ r.kind = 4 := by omega
 refine ⟨hk, h2, h3, fun e => ?_, fun e => ?_, fun e => ?_, fun e => ?_⟩ <;> simpa [e, inW_iff] using h4
theorem ok_rec {l : List WRec} : ∀ {k : Nat}, okTo l k = true → ∀ {j : Nat} {r : WRec}, j < k → l[j]? = some r → RecOk l j r
 | 0, _, j, r, hj, _ => by omega
 | k + 1, h, j, r, hj, hr => by
  simp only [okTo, Bool.and_eq_true] at h
  rcases Nat.lt_or_ge j k with hlt | hge
  ·exact ok_rec h.1 hlt hr
  ·have : j = k := by omega
   subst this
   rw [hr] at h
   exact recP_ok rfl h.2
theorem ok_less {l : List WRec} : ∀ {k j : Nat}, okTo l k = true → j ≤ k → okTo l j = true
 | 0, j, h, hj => by rw [show j = 0 by omega]; rfl
 | k + 1, j, h, hj => by
  by_cases e : j = k + 1
  ·subst e; exact h
  ·simp only [okTo, Bool.and_eq_true] at h
   exact ok_less h.1 (by omega)
theorem ok_len {l : List WRec} : ∀ {k : Nat}, okTo l k = true → k ≤ l.length
 | 0, _ => Nat.zero_le _
 | k + 1, h => by
  simp only [okTo, Bool.and_eq_true] at h
  cases hr : l[k]? with
  | none => rw [hr] at h; exact absurd h.2 (by simp)
  | some r => have := (List.getElem?_eq_some_iff.1 hr).1; omega

theorem metP_iff {l : List WRec} {k : Nat} {n : Int} : metP (l.take k) n = true ↔ ∃ (j : Nat) (r : WRec), j < k ∧ l[j]? = some r ∧ (r.num = n ∨ r.new = n) := by
 unfold metP
 rw [List.any_eq_true]
 constructor
 ·rintro ⟨r, hr, h⟩
  obtain ⟨j, hj, e⟩ := List.getElem_of_mem hr
  rw [List.length_take] at hj
  rw [List.getElem_take] at e
  refine ⟨j, r, by omega, by rw [← e]; exact List.getElem?_eq_getElem (by omega), by simpa using h⟩
 ·rintro ⟨j, r, hj, hr, h⟩
  refine ⟨r, List.mem_of_getElem? (i := j) ?_, by simpa using h⟩
  rw [List.getElem?_take, if_pos hj]; exact hr
theorem cur_step {l : List WRec} {k : Nat} {r : WRec} (hr : l[k]? = some r) (n : Int) : cur l (k + 1) n = if r.kind = 1 ∧ r.num = n then some k else if r.kind = 3 ∧ r.new = n then cur l k r.num else if (r.kind = 3 ∨ r.kind = 4) ∧ r.num = n then none else cur l k n := by
 simp only [cur, hr]
theorem used_cur {l : List WRec} : ∀ {k : Nat}, okTo l k = true → ∀ {n : Int}, 1 ≤ n → usedP l n k = (cur l k n).isSome
 | 0, _, n, _ => rfl
 | k + 1, h, n, hn => by
  have hk := ok_less h (Nat.le_succ k)
  have hlen := ok_len h
  obtain ⟨r, hr⟩ : ∃ r, l[k]? = some r := ⟨_, List.getElem?_eq_getElem (by omega)⟩
  have ho := ok_rec h (Nat.lt_succ_self k) hr
  have ih := fun {m : Int} (hm : 1 ≤ m) => used_cur hk hm
  rw [cur_step hr]
  have e : usedP l n (k + 1) = if n == r.new then r.kind == 3 else if n == r.num then r.kind == 1 || r.kind == 2 else usedP l n k := by simp only [usedP, hr]
  rw [e]
  rcases ho.kind with hk1 | hk1 | hk1 | hk1
  ·have hm := ho.made hk1
   by_cases e2 : r.num = n
   ·have : ¬ n = r.new := by omega
    simp [hk1, e2, hm.2.1, this]
    omega
   ·have : ¬ n = 0 := by omega
    have e3 : ¬ n = r.num := fun e => e2 e.symm
    simp [hk1, e2, hm.2.1, this, e3, ih hn]
  ·have hm := ho.mend hk1
   have h0 : ¬ n = 0 := by omega
   by_cases e2 : n = r.num
   ·subst e2
    have := hm.2.2
    rw [ih hn] at this
    simp [hk1, hm.2.1, h0, this]
   ·simp [hk1, hm.2.1, h0, e2, ih hn]
  ·have hm := ho.again hk1
   by_cases e1 : n = r.new
   ·subst e1
    have := hm.2.2.2.2
    rw [ih ho.num.1] at this
    simp [hk1, this]
   ·have e1' : ¬ r.new = n := fun e => e1 e.symm
    by_cases e2 : n = r.num
    ·subst e2
     simp [hk1, e1, e1']
    ·have e2' : ¬ r.num = n := fun e => e2 e.symm
     simp [hk1, e1, e1', e2, e2', ih hn]
  ·have hm := ho.lost hk1
   have h0 : ¬ n = 0 := by omega
   by_cases e2 : n = r.num
   ·subst e2
    simp [hk1, hm.2.1, h0]
   ·have e2' : ¬ r.num = n := fun e => e2 e.symm
    simp [hk1, hm.2.1, h0, e2, e2', ih hn]
def gotR (n : Int) (r : WRec) : Bool := (r.kind == 1 && r.num == n) || (r.kind == 3 && r.new == n)
theorem gotR_iff {n : Int} {r : WRec} : gotR n r = true ↔ (r.kind = 1 ∧ r.num = n) ∨ (r.kind = 3 ∧ r.new = n) := by unfold gotR; simp
theorem got_fresh {l : List WRec} {k : Nat} {r : WRec} {n : Int} (ho : RecOk l k r) (h : gotR n r = true) : metP (l.take k) n = false := by
 rcases gotR_iff.1 h with ⟨h1, rfl⟩ | ⟨h1, rfl⟩
 ·exact (ho.made h1).2.2
 ·exact (ho.again h1).2.2.2.1
theorem got_uni {l : List WRec} {K j k : Nat} {r s : WRec} {n : Int} (h : okTo l K = true) (hj : j < K) (hk : k < K) (hr : l[j]? = some r) (hs : l[k]? = some s) (gr : gotR n r = true) (gs : gotR n s = true) : j = k := by
 have key : ∀ {j k : Nat} {r s : WRec}, j < k → k < K → l[j]? = some r → l[k]? = some s → gotR n r = true → gotR n s = true → False := by
  intro j k r s hjk hk hr hs gr gs
  have h1 := got_fresh (ok_rec h hk hs) gs
  have h2 : metP (l.take k) n = true := metP_iff.2 ⟨j, r, hjk, hr, by rcases gotR_iff.1 gr with h | h; exact .inl h.2; exact .inr h.2⟩
  rw [h1] at h2; cases h2
 rcases Nat.lt_trichotomy j k with h | h | h
 ·exact (key h hk hr hs gr gs).elim
 ·exact h
 ·exact (key h hj hs hr gs gr).elim
def goneR (n : Int) (r : WRec) : Bool := r.num == n && (r.kind == 3 || r.kind == 4)
theorem goneR_iff {n : Int} {r : WRec} : goneR n r = true ↔ r.num = n ∧ (r.kind = 3 ∨ r.kind = 4) := by unfold goneR; simp
theorem cur_got {l : List WRec} {j : Nat} {r : WRec} {n : Int} (hr : l[j]? = some r) (hg : gotR n r = true) : cur l (j + 1) n = if r.kind = 1 then some j else cur l j r.num := by
 rw [cur_step hr]
 rcases gotR_iff.1 hg with ⟨h1, h2⟩ | ⟨h1, h2⟩
 ·rw [if_pos ⟨h1, h2⟩, if_pos h1]
 ·rw [if_neg (by omega), if_pos ⟨h1, h2⟩, if_neg (by omega)]
theorem cur_from {l : List WRec} {K j : Nat} {r : WRec} {n : Int} (h : okTo l K = true) (hj : j < K) (hr : l[j]? = some r) (hg : gotR n r = true) : ∀ (k : Nat), j < k → k ≤ K → cur l k n = if (l.take k).any (goneR n) then none else cur l (j + 1) n := by
 intro k
 induction k with
 | zero => intro hk; omega
 | succ k ih =>
  intro hjk hkK
  have hlen := ok_len h
  obtain ⟨s, hs⟩ : ∃ s, l[k]? = some s := ⟨_, List.getElem?_eq_getElem (by omega)⟩
  have htk : l.take (k + 1) = l.take k ++ [s] := by rw [List.take_add_one, hs]; rfl
  rw [htk, List.any_append]
  by_cases e : j = k
  ·subst e
   rw [hr] at hs
   cases hs
   have h0 : (l.take j).any (goneR n) = false := by
    rw [List.any_eq_false]
    intro x hx hgx
    have hm := got_fresh (ok_rec h hj hr) hg
    have : metP (l.take j) n = true := by
     unfold metP; rw [List.any_eq_true]
     exact ⟨x, hx, by simp [(goneR_iff.1 hgx).1]⟩
    rw [hm] at this; cases this
   have h1 : goneR n r = false := by
    cases hh : goneR n r with
    | false => rfl
    | true =>
     rcases gotR_iff.1 hg with ⟨h1, h2⟩ | ⟨h1, h2⟩
     ·have := (goneR_iff.1 hh).2; omega
     ·have := (ok_rec h hj hr).again h1
      exact absurd ((goneR_iff.1 hh).1.trans h2.symm) (fun e => this.2.2.1 e.symm)
   simp [h0, h1]
  ·have ihk := ih (by omega) (by omega)
   have hng : gotR n s = false := by
    cases hh : gotR n s with
    | false => rfl
    | true => exact absurd (got_uni h hj (by omega) hr hs hg hh) e
   have hng' := mt gotR_iff.2 (by rw [hng]; decide)
   rw [cur_step hs, if_neg (fun e => hng' (.inl e)), if_neg (fun e => hng' (.inr e)), ihk]
   cases hgn : goneR n s with
   | true =>
    have := goneR_iff.1 hgn
    rw [if_pos ⟨this.2, this.1⟩]
    simp [hgn]
   | false =>
    have := mt goneR_iff.2 (by rw [hgn]; decide)
    rw [if_neg (fun e => this ⟨e.2, e.1⟩)]
    simp [hgn]
theorem cur_not {l : List WRec} {n : Int} : ∀ {k : Nat}, (∀ (j : Nat) (r : WRec), j < k → l[j]? = some r → gotR n r = false) → cur l k n = none
 | 0, _ => rfl
 | k + 1, h => by
  have ih := cur_not (l := l) (n := n) (k := k) (fun j r hj hr => h j r (by omega) hr)
  cases hr : l[k]? with
  | none => simp only [cur, hr]; exact ih
  | some r =>
   have hng' := mt gotR_iff.2 (by rw [h k r (by omega) hr]; decide)
   rw [cur_step hr, if_neg (fun e => hng' (.inl e)), if_neg (fun e => hng' (.inr e)), ih]
   split <;> rfl
theorem cur_has {l : List WRec} {k : Nat} {n : Int} {i : Nat} (h : cur l k n = some i) : ∃ (j : Nat) (r : WRec), j < k ∧ l[j]? = some r ∧ gotR n r = true := by
 apply Classical.byContradiction
 intro hn
 have := cur_not (l := l) (n := n) (k := k) (fun j r hj hr => by
  cases hg : gotR n r with
  | false => rfl
  | true => exact absurd ⟨j, r, hj, hr, hg⟩ hn)
 rw [this] at h; cases h
theorem cur_first {l : List WRec} {K k j : Nat} {r : WRec} {n : Int} {i : Nat} (h : okTo l K = true) (hk : k ≤ K) (hc : cur l k n = some i) (hj : j < K) (hr : l[j]? = some r) (hg : gotR n r = true) : j < k ∧ cur l (j + 1) n = some i := by
 obtain ⟨j', r', h1, h2, h3⟩ := cur_has hc
 have e := got_uni h hj (by omega) hr h2 hg h3
 subst e
 refine ⟨h1, ?_⟩
 rw [cur_from h hj hr hg k h1 hk] at hc
 split at hc
 ·cases hc
 ·exact hc
theorem cur_made {l : List WRec} : ∀ {k : Nat} {n : Int} {i : Nat}, cur l k n = some i → ∃ r, l[i]? = some r ∧ r.kind = 1
 | 0, n, i, h => by cases h
 | k + 1, n, i, h => by
  cases hr : l[k]? with
  | none => simp only [cur, hr] at h; exact cur_made h
  | some r =>
   rw [cur_step hr] at h
   split at h
   ·rename_i hc; cases h; exact ⟨r, hr, hc.1⟩
   ·split at h
    ·exact cur_made h
    ·split at h
     ·cases h
     ·exact cur_made h

def upTo (l : List WRec) (d : Int) : Nat → Nat
 | 0 => 0
 | k + 1 => match l[k]? with | some r => if r.day ≤ d then k + 1 else upTo l d k | none => upTo l d k
theorem day_mono {l : List WRec} {K : Nat} (h : okTo l K = true) : ∀ {k j : Nat} {r s : WRec}, j ≤ k → k < K → l[j]? = some r → l[k]? = some s → r.day ≤ s.day
 | 0, j, r, s, hj, hk, hr, hs => by
  have : j = 0 := by omega
  subst this; rw [hr] at hs; cases hs; exact Int.le_refl _
 | k + 1, j, r, s, hj, hk, hr, hs => by
  by_cases e : j = k + 1
  ·subst e; rw [hr] at hs; cases hs; exact Int.le_refl _
  ·have hlen := ok_len h
   obtain ⟨t, ht⟩ : ∃ t, l[k]? = some t := ⟨_, List.getElem?_eq_getElem (by omega)⟩
   have h1 := day_mono h (show j ≤ k by omega) (by omega) hr ht
   have h2 := (ok_rec h hk hs).day.1
   simp only [dayB, ht] at h2
   omega
theorem upTo_le {l : List WRec} {d : Int} : ∀ {k : Nat}, upTo l d k ≤ k
 | 0 => Nat.le_refl _
 | k + 1 => by
  unfold upTo
  split
  ·split
   ·exact Nat.le_refl _
   ·exact Nat.le_succ_of_le upTo_le
  ·exact Nat.le_succ_of_le upTo_le
theorem upTo_iff {l : List WRec} {d : Int} {K : Nat} (h : okTo l K = true) : ∀ {k j : Nat} {r : WRec}, k ≤ K → j < k → l[j]? = some r → (r.day ≤ d ↔ j < upTo l d k)
 | 0, j, r, _, hj, _ => by omega
 | k + 1, j, r, hk, hj, hr => by
  have hlen := ok_len h
  obtain ⟨s, hs⟩ : ∃ s, l[k]? = some s := ⟨_, List.getElem?_eq_getElem (by omega)⟩
  have hm := day_mono h (show j ≤ k by omega) (by omega) hr hs
  have e : upTo l d (k + 1) = if s.day ≤ d then k + 1 else upTo l d k := by simp only [upTo, hs]
  rw [e]
  split
  ·exact ⟨fun _ => hj, fun _ => by omega⟩
  ·by_cases e2 : j = k
   ·subst e2
    rw [hr] at hs; cases hs
    have := upTo_le (l := l) (d := d) (k := j)
    exact ⟨fun h => by omega, fun h => by omega⟩
   ·exact upTo_iff h (by omega) (by omega) hr
end Go.Ow

/- Part Wf. -/
namespace Go.Proofs.YtdkboibnokipaaaDoor
open Go.RowKit Go.Pm Go.Ow
set_option maxRecDepth 100000
set_option linter.unusedVariables false
set_option maxHeartbeats 4000000
noncomputable def wkIsName : List TV → Option TV
 | [.str s] => some (.bool (nameB s))
 | _ => none
theorem wkIsName_ok : ∀ xs r, wkIsName xs = some r → PCalls Tryd.prog 74 xs r := by
 intro xs r h
 unfold wkIsName at h
 split at h
 ·cases h; exact wIsName_c _
 ·cases h
attribute [go_sem] wkIsName
noncomputable def spWf (l : List WRec) (f : Bool) (k : Nat) (n : Int) : Pm.Spec := ((((spWa.one 68 wkIsNumber).one 74 wkIsName).one 166 (oneP [.sl (recL l) l.length f, .int .i64 n, .int .i64 k] (.bool (metP (l.take k) n)))).one 167 (oneP [.sl (recL l) l.length f, .int .i64 n, .int .i64 k] (.bool (usedP l n k)))).gdt
theorem spWf_ok {l : List WRec} {f : Bool} {k : Nat} (n : Int) (hk : k ≤ l.length) (hl : l.length ≤ 40) : SpecOk Tryd.prog (spWf l f k n) := Spec.gdt_ok (Spec.one_ok (oneP_ok (wUsed_c l f n k hk (by omega))) (Spec.one_ok (oneP_ok (wMet_c l f n k hk (by omega))) (Spec.one_ok wkIsName_ok (Spec.one_ok wkIsNumber_ok spWa_ok))))
theorem emptyB (s : ByteArray) : (s.toList == ByteArray.toList (ByteArray.mk #[])) = decide (s.size = 0) := by
 rw [ByteArray.toList_eq, ByteArray.toList_eq, Bool.eq_iff_iff, beq_iff_eq, decide_eq_true_eq]
 constructor
 ·intro e
  have := congrArg List.length e
  rw [Array.length_toList] at this
  exact this
 ·intro e
  exact List.eq_nil_of_length_eq_zero (by rw [Array.length_toList]; exact e)
section
variable {l : List WRec} (f : Bool) {k : Nat} {r : WRec} (hr : l[k]? = some r) (hl : l.length ≤ 40)
include hr hl
theorem wMade_c : PCalls Tryd.prog 163 [.sl (recL l) l.length f, .int .i64 k] (.bool (nameB r.by_ && (r.new == 0 && !metP (l.take k) r.num))) := by
 have hk := (List.getElem?_eq_some_iff.1 hr).1
 refine pcalls_by Tryd.mixes (spWf_ok (f := f) r.num (Nat.le_of_lt hk) hl) (fn := Tryd.f163) Tryd.func163 rfl (by kernel_rfl) (by show 2 ≤ _; decide) ?_
 have hlt : (k : Int) < l.length := by omega
 have d1 := recL_at hr
 cases c1 : nameB r.by_ with
 | false => simp (decide := true) (maxSteps := 4000000) only [go_sem, Tryd.f163, spWf, hlt, d1, recT, c1]
 | true =>
  cases c2 : (r.new == 0) with
  | false => simp (decide := true) (maxSteps := 4000000) only [go_sem, Tryd.f163, spWf, hlt, d1, recT, c1, c2]
  | true => simp (decide := true) (maxSteps := 4000000) only [go_sem, Tryd.f163, spWf, hlt, d1, recT, c1, c2]
theorem wMended_c : PCalls Tryd.prog 164 [.sl (recL l) l.length f, .int .i64 k] (.bool (nameB r.by_ && (r.new == 0 && usedP l r.num k))) := by
 have hk := (List.getElem?_eq_some_iff.1 hr).1
 refine pcalls_by Tryd.mixes (spWf_ok (f := f) r.num (Nat.le_of_lt hk) hl) (fn := Tryd.f164) Tryd.func164 rfl (by kernel_rfl) (by show 2 ≤ _; decide) ?_
 have hlt : (k : Int) < l.length := by omega
 have d1 := recL_at hr
 cases c1 : nameB r.by_ with
 | false => simp (decide := true) (maxSteps := 4000000) only [go_sem, Tryd.f164, spWf, hlt, d1, recT, c1]
 | true =>
  cases c2 : (r.new == 0) with
  | false => simp (decide := true) (maxSteps := 4000000) only [go_sem, Tryd.f164, spWf, hlt, d1, recT, c1, c2]
  | true => simp (decide := true) (maxSteps := 4000000) only [go_sem, Tryd.f164, spWf, hlt, d1, recT, c1, c2]
theorem wLost_c : PCalls Tryd.prog 165 [.sl (recL l) l.length f, .int .i64 k] (.bool (decide (r.by_.size = 0) && (r.new == 0 && usedP l r.num k))) := by
 have hk := (List.getElem?_eq_some_iff.1 hr).1
 refine pcalls_by Tryd.mixes (spWf_ok (f := f) r.num (Nat.le_of_lt hk) hl) (fn := Tryd.f165) Tryd.func165 rfl (by kernel_rfl) (by show 2 ≤ _; decide) ?_
 have hlt : (k : Int) < l.length := by omega
 have d1 := recL_at hr
 have e := emptyB r.by_
 cases c1 : decide (r.by_.size = 0) with
 | false =>
  rw [c1] at e
  simp (decide := true) (maxSteps := 4000000) only [go_sem, Tryd.f165, spWf, hlt, d1, recT, e]
 | true =>
  rw [c1] at e
  cases c2 : (r.new == 0) with
  | false => simp (decide := true) (maxSteps := 4000000) only [go_sem, Tryd.f165, spWf, hlt, d1, recT, e, c2]
  | true => simp (decide := true) (maxSteps := 4000000) only [go_sem, Tryd.f165, spWf, hlt, d1, recT, e, c2]
end
noncomputable def spWg (l : List WRec) (f : Bool) (k : Nat) (n m : Int) : Pm.Spec := (((spWa.one 68 wkIsNumber).one 166 (oneP [.sl (recL l) l.length f, .int .i64 n, .int .i64 k] (.bool (metP (l.take k) n)))).one 167 (oneP [.sl (recL l) l.length f, .int .i64 m, .int .i64 k] (.bool (usedP l m k)))).gdt
theorem spWg_ok {l : List WRec} {f : Bool} {k : Nat} (n m : Int) (hk : k ≤ l.length) (hl : l.length ≤ 40) : SpecOk Tryd.prog (spWg l f k n m) := Spec.gdt_ok (Spec.one_ok (oneP_ok (wUsed_c l f m k hk (by omega))) (Spec.one_ok (oneP_ok (wMet_c l f n k hk (by omega))) (Spec.one_ok wkIsNumber_ok spWa_ok)))
theorem wAgain_c {l : List WRec} (f : Bool) {k : Nat} {r : WRec} (hr : l[k]? = some r) (hl : l.length ≤ 40) : PCalls Tryd.prog 160 [.sl (recL l) l.length f, .int .i64 k] (.bool (decide (r.by_.size = 0) && (inW r.new 1 99999 && (r.new != r.num && (!metP (l.take k) r.new && usedP l r.num k))))) := by
 have hk := (List.getElem?_eq_some_iff.1 hr).1
 refine pcalls_by Tryd.mixes (spWg_ok (f := f) r.new r.num (Nat.le_of_lt hk) hl) (fn := Tryd.f160) Tryd.func160 rfl (by kernel_rfl) (by show 2 ≤ _; decide) ?_
 have hlt : (k : Int) < l.length := by omega
 have d1 := recL_at hr
 have e := emptyB r.by_
 cases c1 : decide (r.by_.size = 0) with
 | false =>
  rw [c1] at e
  simp (decide := true) (implicitDefEqProofs := false) (maxSteps := 4000000) only [go_sem, Tryd.f160, spWg, hlt, d1, recT, e]
 | true =>
  rw [c1] at e
  cases c2 : inW r.new 1 99999 with
  | false => simp (decide := true) (implicitDefEqProofs := false) (maxSteps := 4000000) only [go_sem, Tryd.f160, spWg, hlt, d1, recT, e, c2]
  | true =>
   cases c3 : (r.new != r.num) with
   | false => simp (decide := true) (implicitDefEqProofs := false) (maxSteps := 4000000) only [go_sem, Tryd.f160, spWg, hlt, d1, recT, e, c2, c3]
   | true =>
    cases c4 : metP (l.take k) r.new with
    | true => simp (decide := true) (implicitDefEqProofs := false) (maxSteps := 4000000) only [go_sem, Tryd.f160, spWg, hlt, d1, recT, e, c2, c3, c4]
    | false => simp (decide := true) (implicitDefEqProofs := false) (maxSteps := 4000000) only [go_sem, Tryd.f160, spWg, hlt, d1, recT, e, c2, c3, c4]
end Go.Proofs.YtdkboibnokipaaaDoor

/- Part Wg. -/
namespace Go.Ow
open Go Go.RowKit Go.Pm
open Classical in
noncomputable def atP (s0 : TV) (g : Nat → Option TV) : List TV → Option TV
 | [s, .int .i64 i] => if s = s0 ∧ 0 ≤ i then g i.toNat else none
 | _ => none
@[go_sem] theorem atP_eq (s0 : TV) (g : Nat → Option TV) (k : Nat) : atP s0 g [s0, .int .i64 k] = g k := by
 simp [atP]
theorem atP_ok {P : Program} {f : FuncId} {s0 : TV} {g : Nat → Option TV} (h : ∀ k v, g k = some v → PCalls P f [s0, .int .i64 k] v) : ∀ a r, atP s0 g a = some r → PCalls P f a r := by
 intro a r e
 unfold atP at e
 split at e
 ·split at e
  ·rename_i i hc
   obtain ⟨rfl, h0⟩ := hc
   have := h _ _ e
   rwa [Int.toNat_of_nonneg h0] at this
  ·cases e
 ·cases e
end Go.Ow
namespace Go.Proofs.YtdkboibnokipaaaDoor
open Go.RowKit Go.Pm Go.Ow
set_option maxRecDepth 100000
set_option linter.unusedVariables false
set_option maxHeartbeats 4000000
@[go_sem] theorem globP_kinds : globP 0 = .t (.cptr [.fn 163 [] [], .fn 164 [] [], .fn 160 [] [], .fn 165 [] []]) := rfl
theorem wr0 : IntKind.i64.wrap 0 = 0 := rfl
theorem wr1 : IntKind.i64.wrap 1 = 1 := rfl
theorem wr2 : IntKind.i64.wrap 2 = 2 := rfl
theorem wr3 : IntKind.i64.wrap 3 = 3 := rfl
def bkT (s : TV) (l : List WRec) : Prop := (s = .nilSl ∧ l = []) ∨ ∃ f, s = .sl (recL l) l.length f
noncomputable def spWh (l : List WRec) (f : Bool) : Pm.Spec := (((((spWa.one 68 wkIsNumber).one 163 (atP (.sl (recL l) l.length f) fun k => (l[k]?).map fun r => .bool (nameB r.by_ && (r.new == 0 && !metP (l.take k) r.num)))).one 164 (atP (.sl (recL l) l.length f) fun k => (l[k]?).map fun r => .bool (nameB r.by_ && (r.new == 0 && usedP l r.num k)))).one 160 (atP (.sl (recL l) l.length f) fun k => (l[k]?).map fun r => .bool (decide (r.by_.size = 0) && (inW r.new 1 99999 && (r.new != r.num && (!metP (l.take k) r.new && usedP l r.num k)))))).one 165 (atP (.sl (recL l) l.length f) fun k => (l[k]?).map fun r => .bool (decide (r.by_.size = 0) && (r.new == 0 && usedP l r.num k)))).gdt
theorem spWh_ok {l : List WRec} {f : Bool} (hl : l.length ≤ 40) : SpecOk Tryd.prog (spWh l f) := by
 refine Spec.gdt_ok (Spec.one_ok (atP_ok fun k v e => ?_) (Spec.one_ok (atP_ok fun k v e => ?_) (Spec.one_ok (atP_ok fun k v e => ?_) (Spec.one_ok (atP_ok fun k v e => ?_) (Spec.one_ok wkIsNumber_ok spWa_ok)))))
 all_goals
  cases hr : l[k]? with
  | none => rw [hr] at e; cases e
  | some r => rw [hr] at e; cases e; first | exact wLost_c f hr hl | exact wAgain_c f hr hl | exact wMended_c f hr hl | exact wMade_c f hr hl
theorem wCheckBook_c {s : TV} {l : List WRec} (hs : bkT s l) (hL : l.length ≤ 140737488355328) : PCalls Tryd.prog 28 [s] (.int .i64 (if bookB l then 0 else 92)) := by
 rcases hs with ⟨rfl, rfl⟩ | ⟨f, rfl⟩
 ·refine pcalls_by Tryd.mixes (spWh_ok (l := []) (f := true) (by decide)) (fn := Tryd.f28) Tryd.func28 rfl (by kernel_rfl) (by show 1 ≤ _; decide) ?_
  simp (decide := true) (implicitDefEqProofs := false) (maxSteps := 4000000) only [go_sem, Tryd.f28, spWh]
  refine pwpC_loopU (A := Unit) [0, 2, 3] (fun _ => [(4, .t (.int .i64 0)), (5, .t (.int .i64 0))]) (fun _ => []) (fun _ => 0) () (by decide) (fun _ => by rfl) ?_ fun Q1 hQ1 _ I1 hI1 => ?_
  ·simp (decide := true) (implicitDefEqProofs := false) (maxSteps := 4000000) only [go_sem]
  ·simp (decide := true) (implicitDefEqProofs := false) (maxSteps := 4000000) only [go_sem]
   refine hQ1 _ _ ?_
   have e : bookB [] = true := by decide
   simp (decide := true) (implicitDefEqProofs := false) (maxSteps := 4000000) only [go_sem, e]
 ·by_cases hl : l.length ≤ 40
  ·refine pcalls_by Tryd.mixes (spWh_ok (f := f) hl) (fn := Tryd.f28) Tryd.func28 rfl (by kernel_rfl) (by show 1 ≤ _; decide) ?_
   have h40 : (l.length : Int) ≤ 40 := by omega
   have eb : bookB l = okTo l l.length := by unfold bookB; rw [decide_eq_true hl, Bool.true_and]
   rw [eb]
   simp (decide := true) (implicitDefEqProofs := false) (maxSteps := 4000000) only [go_sem, Tryd.f28, spWh, h40]
   refine pwpC_loopU (A := { k : Nat // k ≤ l.length ∧ (okTo l k = false → okTo l l.length = false) }) [0, 2] (fun k => [(3, .t (.bool (okTo l k.1))), (4, .t (.int .i64 (dayB l k.1))), (5, .t (.int .i64 k.1))]) (fun _ => []) (fun k => l.length - k.1) ⟨0, Nat.zero_le _, fun h => by cases h⟩ (by decide) (fun _ => by rfl) ?_ fun Q1 hQ1 ⟨k, hk, hbad⟩ I1 hI1 => ?_
   ·simp (decide := true) (implicitDefEqProofs := false) (maxSteps := 4000000) only [go_sem, okTo, dayB]
   ·rcases Bool.eq_false_or_eq_true (okTo l k) with ho | ho
    rotate_left
    ·have hb := hbad ho
     simp (decide := true) (implicitDefEqProofs := false) (maxSteps := 4000000) only [go_sem, ho]
     refine hQ1 _ _ ?_
     simp (decide := true) (implicitDefEqProofs := false) (maxSteps := 4000000) only [go_sem, hb]
    ·by_cases hlt : (k : Int) < l.length
     ·obtain ⟨r, hr⟩ : ∃ r, l[k]? = some r := ⟨_, List.getElem?_eq_getElem (by omega)⟩
      have d1 := recL_at hr
      have hle : k * 5 + 5 ≤ (recL l).length := by rw [recL_len]; omega
      have hk1 : IntKind.i64.wrap ((k : Int) + 1) = ((k + 1 : Nat) : Int) := by rw [wrap_in (by omega) (by omega)]; omega
      have eo : okTo l (k + 1) = recP l k (dayB l k) r := by simp only [okTo, ho, hr, Bool.true_and]
      have ed : dayB l (k + 1) = r.day := by simp only [dayB, hr]
      have hnx : okTo l (k + 1) = false → okTo l l.length = false := fun e => by
       cases h : okTo l l.length with
       | false => rfl
       | true => rw [ok_less h (show k + 1 ≤ l.length by omega)] at e; cases e
      rw [eo] at hnx
      cases c1 : inW r.kind 1 4 with
      | false =>
       have er : recP l k (dayB l k) r = false := by unfold recP; rw [c1]; rfl
       simp (decide := true) (implicitDefEqProofs := false) (maxSteps := 4000000) only [go_sem, ho, hlt, d1, hle, recT, c1, hr]
       refine hI1 _ ⟨k + 1, by omega, by rw [eo]; exact hnx⟩ (by simp only; omega) ?_
       simp (decide := true) (implicitDefEqProofs := false) (maxSteps := 4000000) only [go_sem, eo, ed, er, hk1]
      | true =>
       cases c2 : inW r.day (dayB l k) 100000 with
       | false =>
        have er : recP l k (dayB l k) r = false := by unfold recP; rw [c1, c2]; rfl
        simp (decide := true) (implicitDefEqProofs := false) (maxSteps := 4000000) only [go_sem, ho, hlt, d1, hle, recT, c1, c2, hr]
        refine hI1 _ ⟨k + 1, by omega, by rw [eo]; exact hnx⟩ (by simp only; omega) ?_
        simp (decide := true) (implicitDefEqProofs := false) (maxSteps := 4000000) only [go_sem, eo, ed, er, hk1]
       | true =>
        cases c3 : inW r.num 1 99999 with
        | false =>
         have er : recP l k (dayB l k) r = false := by unfold recP; rw [c1, c2, c3]; rfl
         simp (decide := true) (implicitDefEqProofs := false) (maxSteps := 4000000) only [go_sem, ho, hlt, d1, hle, recT, c1, c2, c3, hr]
         refine hI1 _ ⟨k + 1, by omega, by rw [eo]; exact hnx⟩ (by simp only; omega) ?_
         simp (decide := true) (implicitDefEqProofs := false) (maxSteps := 4000000) only [go_sem, eo, ed, er, hk1]
        | true =>
         have er : recP l k (dayB l k) r = kindP l k r := by unfold recP; rw [c1, c2, c3]; rfl
         have hkd := inW_iff.1 c1
         have h4 : r.kind = 1 ∨ r.kind = 2 ∨ r.kind = 3 ∨ r.kind = 4 := by omega
         rcases h4 with h4 | h4 | h4 | h4
         ·have e2 : kindP l k r = (nameB r.by_ && (r.new == 0 && !metP (l.take k) r.num)) := by unfold kindP; rw [h4]; rfl
          rw [h4] at c1
          simp (decide := true) (implicitDefEqProofs := false) (maxSteps := 4000000) only [go_sem, ho, hlt, d1, hle, recT, h4, c1, c2, c3, hr, wr0, wr1, wr2, wr3]
          refine hI1 _ ⟨k + 1, by omega, by rw [eo]; exact hnx⟩ (by simp only; omega) ?_
          simp (decide := true) (implicitDefEqProofs := false) (maxSteps := 4000000) only [go_sem, eo, ed, er, e2, hk1]
         ·have e2 : kindP l k r = (nameB r.by_ && (r.new == 0 && usedP l r.num k)) := by unfold kindP; rw [h4]; rfl
          rw [h4] at c1
          simp (decide := true) (implicitDefEqProofs := false) (maxSteps := 4000000) only [go_sem, ho, hlt, d1, hle, recT, h4, c1, c2, c3, hr, wr0, wr1, wr2, wr3]
          refine hI1 _ ⟨k + 1, by omega, by rw [eo]; exact hnx⟩ (by simp only; omega) ?_
          simp (decide := true) (implicitDefEqProofs := false) (maxSteps := 4000000) only [go_sem, eo, ed, er, e2, hk1]
         ·have e2 : kindP l k r = (decide (r.by_.size = 0) && (inW r.new 1 99999 && (r.new != r.num && (!metP (l.take k) r.new && usedP l r.num k)))) := by unfold kindP; rw [h4]; rfl
          rw [h4] at c1
          simp (decide := true) (implicitDefEqProofs := false) (maxSteps := 4000000) only [go_sem, ho, hlt, d1, hle, recT, h4, c1, c2, c3, hr, wr0, wr1, wr2, wr3]
          refine hI1 _ ⟨k + 1, by omega, by rw [eo]; exact hnx⟩ (by simp only; omega) ?_
          simp (decide := true) (implicitDefEqProofs := false) (maxSteps := 4000000) only [go_sem, eo, ed, er, e2, hk1]
         ·have e2 : kindP l k r = (decide (r.by_.size = 0) && (r.new == 0 && usedP l r.num k)) := by unfold kindP; rw [h4]; rfl
          rw [h4] at c1
          simp (decide := true) (implicitDefEqProofs := false) (maxSteps := 4000000) only [go_sem, ho, hlt, d1, hle, recT, h4, c1, c2, c3, hr, wr0, wr1, wr2, wr3]
          refine hI1 _ ⟨k + 1, by omega, by rw [eo]; exact hnx⟩ (by simp only; omega) ?_
          simp (decide := true) (implicitDefEqProofs := false) (maxSteps := 4000000) only [go_sem, eo, ed, er, e2, hk1]
     ·have e : k = l.length := by omega
      subst e
      simp (decide := true) (implicitDefEqProofs := false) (maxSteps := 4000000) only [go_sem, ho, hlt]
      refine hQ1 _ _ ?_
      simp (decide := true) (implicitDefEqProofs := false) (maxSteps := 4000000) only [go_sem, ho]
  ·refine pcalls_by Tryd.mixes (spWh_ok (l := []) (f := true) (by decide)) (fn := Tryd.f28) Tryd.func28 rfl (by kernel_rfl) (by show 1 ≤ _; decide) ?_
   have h40 : ¬ (l.length : Int) ≤ 40 := by omega
   have eb : bookB l = false := by unfold bookB; rw [decide_eq_false hl, Bool.false_and]
   rw [eb]
   simp (decide := true) (implicitDefEqProofs := false) (maxSteps := 4000000) only [go_sem, Tryd.f28, spWh, h40]
   refine pwpC_loopU (A := Unit) [0, 2, 3] (fun _ => [(4, .t (.int .i64 0)), (5, .t (.int .i64 0))]) (fun _ => []) (fun _ => 0) () (by decide) (fun _ => by rfl) ?_ fun Q1 hQ1 _ I1 hI1 => ?_
   ·simp (decide := true) (implicitDefEqProofs := false) (maxSteps := 4000000) only [go_sem]
   ·simp (decide := true) (implicitDefEqProofs := false) (maxSteps := 4000000) only [go_sem]
    refine hQ1 _ _ ?_
    simp (decide := true) (implicitDefEqProofs := false) (maxSteps := 4000000) only [go_sem]
end Go.Proofs.YtdkboibnokipaaaDoor

/- Part Wp2. -/
namespace Go.Ow
open Go Go.Pm

def bearN (l : List WRec) (n d : Int) : Option Nat := cur l (upTo l d l.length) n
def marksK (l : List WRec) (i : Nat) (d : Int) : Nat → List ByteArray
 | 0 => []
 | k + 1 => marksK l i d k ++ (match l[k]? with
  | some r => if r.kind = 2 ∧ r.day ≤ d ∧ cur l k r.num = some i then [r.by_] else []
  | none => [])
theorem marksK_succ {l : List WRec} {i k : Nat} {d : Int} {r : WRec} (hr : l[k]? = some r) : marksK l i d (k + 1) = marksK l i d k ++ if r.kind = 2 ∧ r.day ≤ d ∧ cur l k r.num = some i then [r.by_] else [] := by simp only [marksK, hr]
theorem marksK_len {l : List WRec} {i : Nat} {d : Int} : ∀ {k : Nat}, (marksK l i d k).length ≤ k
 | 0 => Nat.le_refl _
 | k + 1 => by
  have := marksK_len (l := l) (i := i) (d := d) (k := k)
  unfold marksK
  rw [List.length_append]
  split
  ·split
   ·simp only [List.length_cons, List.length_nil]; omega
   ·simp only [List.length_nil]; omega
  ·simp only [List.length_nil]; omega
def gotN (l : List WRec) (n : Int) : Option Nat := l.findIdx? (gotR n)
theorem gotN_some {l : List WRec} {n : Int} {j : Nat} (h : gotN l n = some j) : ∃ r, l[j]? = some r ∧ gotR n r = true := by
 unfold gotN at h
 rw [List.findIdx?_eq_some_iff_getElem] at h
 obtain ⟨hj, hg, _⟩ := h
 exact ⟨_, List.getElem?_eq_getElem hj, hg⟩
theorem gotN_of {l : List WRec} {n : Int} {j : Nat} {r : WRec} (h : okTo l l.length = true) (hr : l[j]? = some r) (hg : gotR n r = true) : gotN l n = some j := by
 cases hn : gotN l n with
 | none =>
  unfold gotN at hn
  rw [List.findIdx?_eq_none_iff] at hn
  rw [hn r (List.mem_of_getElem? hr)] at hg; cases hg
 | some j' =>
  obtain ⟨r', h1, h2⟩ := gotN_some hn
  rw [got_uni h (List.getElem?_eq_some_iff.1 h1).1 (List.getElem?_eq_some_iff.1 hr).1 h1 hr h2 hg]
theorem gotN_none {l : List WRec} {n : Int} (h : gotN l n = none) {k : Nat} : cur l k n = none := by
 unfold gotN at h
 rw [List.findIdx?_eq_none_iff] at h
 exact cur_not fun j r _ hr => h r (List.mem_of_getElem? hr)
theorem got_born {l : List WRec} {j : Nat} {r : WRec} {n : Int} (h : okTo l l.length = true) (hr : l[j]? = some r) (hg : gotR n r = true) : ∃ i, cur l (j + 1) n = some i := by
 rw [cur_got hr hg]
 split
 ·exact ⟨j, rfl⟩
 ·rename_i hk
  have hj := (List.getElem?_eq_some_iff.1 hr).1
  have ho := ok_rec h hj hr
  have hu := (ho.again (by rcases gotR_iff.1 hg with h | h; exact absurd h.1 hk; exact h.1)).2.2.2.2
  rw [used_cur (ok_less h (by omega)) ho.num.1] at hu
  exact Option.isSome_iff_exists.1 hu
theorem got_back {l : List WRec} {j : Nat} {r : WRec} {n : Int} {i : Nat} (h : okTo l l.length = true) (hr : l[j]? = some r) (hg : gotR n r = true) (hk : r.kind = 3) (hc : cur l (j + 1) n = some i) :
  ∃ (j' : Nat) (r' : WRec), gotN l r.num = some j' ∧ j' < j ∧ l[j']? = some r' ∧ gotR r.num r' = true ∧ cur l (j' + 1) r.num = some i := by
 have hj := (List.getElem?_eq_some_iff.1 hr).1
 rw [cur_got hr hg, if_neg (by omega)] at hc
 obtain ⟨j', r', h1, h2, h3⟩ := cur_has hc
 have := cur_first h (Nat.le_of_lt hj) hc (by omega) h2 h3
 exact ⟨j', r', gotN_of h h2 h3, h1, h2, h3, this.2⟩
theorem got_end {l : List WRec} {j : Nat} {r : WRec} {n : Int} {i : Nat} (hr : l[j]? = some r) (hg : gotR n r = true) (hk : ¬ r.kind = 3) (hc : cur l (j + 1) n = some i) : i = j := by
 rw [cur_got hr hg, if_pos (by rcases gotR_iff.1 hg with h | h; exact h.1; exact absurd h.1 hk)] at hc
 cases hc; rfl
theorem bearN_none {l : List WRec} {n d : Int} (h : gotN l n = none) : bearN l n d = none := gotN_none h
theorem bearN_late {l : List WRec} {n d : Int} {j : Nat} {r : WRec} (h : okTo l l.length = true) (hj : gotN l n = some j) (hr : l[j]? = some r) (hd : d < r.day) : bearN l n d = none := by
 obtain ⟨r', h1, h2⟩ := gotN_some hj
 rw [hr] at h1; cases h1
 cases hc : bearN l n d with
 | none => rfl
 | some i =>
  have hjl := (List.getElem?_eq_some_iff.1 hr).1
  have := (cur_first h upTo_le hc hjl hr h2).1
  have := (upTo_iff (d := d) h (Nat.le_refl _) hjl hr).2 this
  omega
def goneD (n d : Int) (r : WRec) : Bool := r.num == n && (decide (r.day ≤ d) && (r.kind == 3 || r.kind == 4))
theorem gone_any {l : List WRec} {n d : Int} (h : okTo l l.length = true) : l.any (goneD n d) = (l.take (upTo l d l.length)).any (goneR n) := by
 rw [Bool.eq_iff_iff, List.any_eq_true, List.any_eq_true]
 constructor
 ·rintro ⟨r, hr, hg⟩
  obtain ⟨j, hj, rfl⟩ := List.getElem_of_mem hr
  unfold goneD at hg
  simp only [Bool.and_eq_true, decide_eq_true_eq] at hg
  have := (upTo_iff (d := d) h (Nat.le_refl _) hj (List.getElem?_eq_getElem hj)).1 hg.2.1
  refine ⟨l[j], List.mem_of_getElem? (i := j) ?_, by unfold goneR; rw [hg.1, hg.2.2]; rfl⟩
  rw [List.getElem?_take, if_pos this]; exact List.getElem?_eq_getElem hj
 ·rintro ⟨r, hr, hg⟩
  obtain ⟨j, hj, e⟩ := List.getElem_of_mem hr
  rw [List.length_take] at hj
  rw [List.getElem_take] at e
  have := (upTo_iff (d := d) h (Nat.le_refl _) (show j < l.length by omega) (List.getElem?_eq_getElem (by omega))).2 (by omega)
  refine ⟨r, by rw [← e]; exact List.getElem_mem _, ?_⟩
  unfold goneD goneR at *
  simp only [Bool.and_eq_true, decide_eq_true_eq] at hg ⊢
  exact ⟨hg.1, by rw [← e]; exact this, hg.2⟩
theorem bearN_gone {l : List WRec} {n d : Int} {j : Nat} {r : WRec} (h : okTo l l.length = true) (hj : gotN l n = some j) (hr : l[j]? = some r) (hd : r.day ≤ d) : bearN l n d = if l.any (goneD n d) then none else cur l (j + 1) n := by
 obtain ⟨r', h1, h2⟩ := gotN_some hj
 rw [hr] at h1; cases h1
 have hjl := (List.getElem?_eq_some_iff.1 hr).1
 have hlt := (upTo_iff (d := d) h (Nat.le_refl _) hjl hr).1 hd
 rw [gone_any h]
 exact cur_from h hjl hr h2 _ hlt upTo_le

def Brn (l : List WRec) (i : Nat) (d : Int) (k : Nat) (b : Int) : Prop := ∀ n, 1 ≤ n → (cur l (min k (upTo l d l.length)) n = some i ↔ b = n)
structure Fol (l : List WRec) (i : Nat) (d : Int) (k : Nat) (now b : Int) (m : List ByteArray) : Prop where
 le : k ≤ l.length
 pos : 1 ≤ now
 is : cur l k now = some i
 brn : Brn l i d k b
 marks : m = marksK l i d k
section
variable {l : List WRec} {i k : Nat} {d : Int} {now b : Int} {m : List ByteArray} {r : WRec}
end
end Go.Ow

/- Part Wh. -/
namespace Go.Ow
open Go Go.RowKit Go.Pm
def fIxR (p : WRec → Bool) (l : List WRec) : Int := match l.findIdx? p with | some i => (i : Int) | none => -1
theorem fIxR_hit {p : WRec → Bool} {l : List WRec} {k : Nat} {x : WRec} (hno : ∀ (i : Nat) (y : WRec), i < k → l[i]? = some y → p y = false) (hx : l[k]? = some x) (hp : p x = true) : fIxR p l = k := by
 unfold fIxR
 have hk := (List.getElem?_eq_some_iff.1 hx).1
 have he := (List.getElem?_eq_some_iff.1 hx).2
 have : l.findIdx? p = some k := by
  rw [List.findIdx?_eq_some_iff_getElem]
  refine ⟨hk, by rw [he]; exact hp, fun j hj => ?_⟩
  have := hno j _ hj (List.getElem?_eq_getElem (by omega))
  rw [this]; decide
 rw [this]
theorem fIxR_none {p : WRec → Bool} {l : List WRec} (hno : ∀ (i : Nat) (y : WRec), i < l.length → l[i]? = some y → p y = false) : fIxR p l = -1 := by
 unfold fIxR
 have : l.findIdx? p = none := by
  rw [List.findIdx?_eq_none_iff]
  intro x hx
  obtain ⟨i, hi⟩ := List.mem_iff_getElem?.1 hx
  exact hno i x (List.getElem?_eq_some_iff.1 hi).1 hi
 rw [this]
noncomputable def wrP (caps : List TV) (p : WRec → Bool) : List TV → Option TV
 | .agg [.int .i64 a, .int .i64 b, .int .i64 c, .str s, .int .i64 d] :: cs => @ite _ (cs = caps) (Classical.propDecidable _) (some (.bool (p ⟨a, b, c, s, d⟩))) none
 | _ => none
theorem wrP_ok {P : Program} {f : FuncId} {caps : List TV} {p : WRec → Bool} (h : ∀ x, PCalls P f (.agg (recT x) :: caps) (.bool (p x))) : ∀ al r, wrP caps p al = some r → PCalls P f al r := by
 intro al r e
 unfold wrP at e
 split at e
 ·split at e
  ·rename_i hc; subst hc; cases e; exact h ⟨_, _, _, _, _⟩
  ·cases e
 ·cases e
@[go_sem] theorem wrP_eq (caps cs : List TV) (p : WRec → Bool) (a b c d : Int) (s : ByteArray) : wrP caps p (.agg [.int .i64 a, .int .i64 b, .int .i64 c, .str s, .int .i64 d] :: cs) = @ite _ (cs = caps) (Classical.propDecidable _) (some (.bool (p ⟨a, b, c, s, d⟩))) none := rfl
@[go_sem] theorem allT : ∀ cs : List TV, allO (List.map PV.toT (List.map PV.t cs)) = some cs
 | [] => rfl
 | c :: cs => by simp only [List.map_cons, allO, allT cs, PV.toT, Option.map_some]
theorem gotN_ix (l : List WRec) (n : Int) : fIxR (gotR n) l = match gotN l n with | some i => (i : Int) | none => -1 := rfl
end Go.Ow
namespace Go.Proofs.YtdkboibnokipaaaDoor
open Go.RowKit Go.Pm Go.Ow
set_option maxRecDepth 100000
set_option linter.unusedVariables false
set_option maxHeartbeats 4000000

theorem wFirst_c {fid : FuncId} {caps : List TV} {p : WRec → Bool} {l : List WRec} {s : TV} (hl : bkT s l) (hll : l.length ≤ 1000000) (hc : ∀ x, PCalls Tryd.prog fid (.agg (recT x) :: caps) (.bool (p x))) : PCalls Tryd.prog 95 [.fn fid [] caps, s] (.int .i64 (fIxR p l)) := by
 refine pcalls_by Tryd.mixes (Spec.one_ok (wrP_ok hc) noSpec_ok) (fn := Tryd.f95) Tryd.func95 rfl (by kernel_rfl) (by show 2 ≤ _; decide) ?_
 rcases hl with ⟨rfl, rfl⟩ | ⟨f, rfl⟩
 ·simp (decide := true) (implicitDefEqProofs := false) (maxSteps := 4000000) only [go_sem, Tryd.f95]
  refine pwpC_loopU (A := Unit) [0, 7, 8] (fun _ => [(9, .t (.int .i64 0))]) (fun _ => []) (fun _ => 0) () (by decide) (fun _ => by rfl) ?_ fun Q1 hQ1 _ I1 hI1 => ?_
  ·simp (decide := true) (implicitDefEqProofs := false) (maxSteps := 4000000) only [go_sem]
  ·simp (decide := true) (implicitDefEqProofs := false) (maxSteps := 4000000) only [go_sem]
   refine hQ1 _ _ ?_
   simp (decide := true) (implicitDefEqProofs := false) (maxSteps := 4000000) only [go_sem]
   first | done | rfl
 ·simp (decide := true) (implicitDefEqProofs := false) (maxSteps := 4000000) only [go_sem, Tryd.f95]
  have hlen := recL_len l
  refine pwpC_loopU (A := { k : Nat // k ≤ l.length ∧ ∀ (i : Nat) (y : WRec), i < k → l[i]? = some y → p y = false }) [0, 7, 8] (fun k => [(9, .t (.int .i64 k.1))]) (fun _ => []) (fun k => l.length - k.1) ⟨0, by omega, fun i y h => by omega⟩ (by decide) (fun _ => by rfl) ?_ fun Q1 hQ1 ⟨k, hk, hno⟩ I1 hI1 => ?_
  ·simp (decide := true) (implicitDefEqProofs := false) (maxSteps := 4000000) only [go_sem]
  ·by_cases hlt : (k : Int) < l.length
   ·obtain ⟨x, hx⟩ : ∃ r, l[k]? = some r := ⟨_, List.getElem?_eq_getElem (by omega)⟩
    have hd := recL_at hx
    have hc1 : IntKind.i64.wrap (k + 1) = ((k + 1 : Nat) : Int) := by rw [wrap_in (by omega) (by omega)]; omega
    have hle : k * 5 + 5 ≤ (recL l).length := by rw [hlen]; omega
    cases hb : p x with
    | true =>
     have e := fIxR_hit hno hx hb
     obtain ⟨a, b, c, d, g⟩ := x
     simp (decide := true) (implicitDefEqProofs := false) (maxSteps := 4000000) only [go_sem, hlt, hd, hb, hle, recT]
     refine hQ1 _ _ ?_
     simp (decide := true) (implicitDefEqProofs := false) (maxSteps := 4000000) only [go_sem, e]
    | false =>
     have hno' : ∀ (i : Nat) (y : WRec), i < k + 1 → l[i]? = some y → p y = false := fun i y hi hy => by
      by_cases e : i = k
      ·subst e; rw [hx] at hy; cases hy; exact hb
      ·exact hno i y (by omega) hy
     obtain ⟨a, b, c, d, g⟩ := x
     simp (decide := true) (implicitDefEqProofs := false) (maxSteps := 4000000) only [go_sem, hlt, hd, hb, hle, recT]
     refine hI1 _ ⟨k + 1, by omega, hno'⟩ (by simp only; omega) ?_
     simp (decide := true) (implicitDefEqProofs := false) (maxSteps := 4000000) only [go_sem, hc1]
   ·have hke : k = l.length := by omega
    subst hke
    have e : fIxR p l = -1 := fIxR_none hno
    simp (decide := true) (implicitDefEqProofs := false) (maxSteps := 4000000) only [go_sem, hlt]
    refine hQ1 _ _ ?_
    simp (decide := true) (implicitDefEqProofs := false) (maxSteps := 4000000) only [go_sem, e]
theorem wGot1_c (n : Int) (r : WRec) : PCalls Tryd.prog 124 [.agg (recT r), .cptr [.int .i64 n]] (.bool (gotR n r)) := by
 refine pcalls_by Tryd.mixes (Spec.gdt_ok noSpec_ok) (fn := Tryd.f124) Tryd.func124 rfl (by kernel_rfl) (by show 2 ≤ _; decide) ?_
 unfold gotR
 cases c1 : (r.kind == 1) with
 | true =>
  cases c2 : (r.num == n) with
  | true => simp (decide := true) (implicitDefEqProofs := false) (maxSteps := 4000000) only [go_sem, Tryd.f124, recT, c1, c2]
  | false =>
   cases c3 : (r.kind == 3) with
   | true => simp (decide := true) (implicitDefEqProofs := false) (maxSteps := 4000000) only [go_sem, Tryd.f124, recT, c1, c2, c3]
   | false => simp (decide := true) (implicitDefEqProofs := false) (maxSteps := 4000000) only [go_sem, Tryd.f124, recT, c1, c2, c3]
 | false =>
  cases c3 : (r.kind == 3) with
  | true => simp (decide := true) (implicitDefEqProofs := false) (maxSteps := 4000000) only [go_sem, Tryd.f124, recT, c1, c3]
  | false => simp (decide := true) (implicitDefEqProofs := false) (maxSteps := 4000000) only [go_sem, Tryd.f124, recT, c1, c3]
theorem wGot_c {s : TV} {l : List WRec} (hs : bkT s l) (hl : l.length ≤ 1000000) (n : Int) : PCalls Tryd.prog 94 [s, .int .i64 n] (.int .i64 (fIxR (gotR n) l)) := by
 refine pcalls_by Tryd.mixes (Spec.frz_ok (Spec.one_ok (oneP_ok (wFirst_c hs hl (wGot1_c n))) noSpec_ok)) (fn := Tryd.f94) Tryd.func94 rfl (by kernel_rfl) (by show 2 ≤ _; decide) ?_
 simp (decide := true) (implicitDefEqProofs := false) (maxSteps := 4000000) only [go_sem, Tryd.f94, freezeW, freezeO, frzC, thawP, thawC]
theorem wBearer1_c (n d : Int) (r : WRec) : PCalls Tryd.prog 96 [.agg (recT r), .cptr [.int .i64 n], .cptr [.int .i64 d]] (.bool (goneD n d r)) := by
 refine pcalls_by Tryd.mixes (Spec.gdt_ok noSpec_ok) (fn := Tryd.f96) Tryd.func96 rfl (by kernel_rfl) (by show 3 ≤ _; decide) ?_
 unfold goneD
 cases c1 : (r.num == n) with
 | false => simp (decide := true) (implicitDefEqProofs := false) (maxSteps := 4000000) only [go_sem, Tryd.f96, recT, c1]
 | true =>
  by_cases c2 : r.day ≤ d
  ·cases c3 : (r.kind == 3) with
   | true => simp (decide := true) (implicitDefEqProofs := false) (maxSteps := 4000000) only [go_sem, Tryd.f96, recT, c1, c2, c3]
   | false => simp (decide := true) (implicitDefEqProofs := false) (maxSteps := 4000000) only [go_sem, Tryd.f96, recT, c1, c2, c3]
  ·simp (decide := true) (implicitDefEqProofs := false) (maxSteps := 4000000) only [go_sem, Tryd.f96, recT, c1, c2]
end Go.Proofs.YtdkboibnokipaaaDoor

/- Part Wi. -/
namespace Go.Ow
open Go Go.RowKit Go.Pm
open Classical in
noncomputable def byP (s0 : TV) (g : Int → Option TV) : List TV → Option TV
 | [s, .int .i64 n] => if s = s0 then g n else none
 | _ => none
open Classical in
@[go_sem] theorem byP_eq (s0 s : TV) (g : Int → Option TV) (n : Int) : byP s0 g [s, .int .i64 n] = if s = s0 then g n else none := rfl
theorem byP_ok {P : Program} {f : FuncId} {s0 : TV} {g : Int → Option TV} (h : ∀ n v, g n = some v → PCalls P f [s0, .int .i64 n] v) : ∀ a r, byP s0 g a = some r → PCalls P f a r := by
 intro a r e
 unfold byP at e
 split at e
 ·split at e
  ·rename_i hc; subst hc; exact h _ _ e
  ·cases e
 ·cases e
def optI : Option Nat → Int
 | some i => i
 | none => -1
end Go.Ow
namespace Go.Proofs.YtdkboibnokipaaaDoor
open Go.RowKit Go.Pm Go.Ow
set_option maxRecDepth 100000
set_option linter.unusedVariables false
set_option maxHeartbeats 4000000
theorem wInstrument_c {l : List WRec} (f : Bool) (hl : l.length ≤ 40) (ho : okTo l l.length = true) {n : Int} {j0 i : Nat} (hj0 : gotN l n = some j0) (hi : cur l (j0 + 1) n = some i) : PCalls Tryd.prog 97 [.sl (recL l) l.length f, .int .i64 n] (.int .i64 i) := by
 refine pcalls_by Tryd.mixes (Spec.one_ok (byP_ok (s0 := .sl (recL l) l.length f) (g := fun n => some (.int .i64 (fIxR (gotR n) l))) fun n v e => by cases e; exact wGot_c (.inr ⟨f, rfl⟩) (by omega) n) noSpec_ok) (fn := Tryd.f97) Tryd.func97 rfl (by kernel_rfl) (by show 2 ≤ _; decide) ?_
 obtain ⟨r0, hr0, hg0⟩ := gotN_some hj0
 have e0 : fIxR (gotR n) l = j0 := by rw [gotN_ix, hj0]
 simp (decide := true) (implicitDefEqProofs := false) (maxSteps := 4000000) only [go_sem, Tryd.f97, e0]
 refine pwpC_loopU (A := { j : Nat // ∃ (m : Int) (r : WRec), l[j]? = some r ∧ gotR m r = true ∧ cur l (j + 1) m = some i }) [0] (fun j => [(5, .t (.int .i64 j.1))]) (fun _ => []) (fun j => j.1) ⟨j0, n, r0, hr0, hg0, hi⟩ (by decide) (fun _ => by rfl) ?_ fun Q1 hQ1 ⟨j, m, r, hr, hg, hc⟩ I1 hI1 => ?_
 ·simp (decide := true) (implicitDefEqProofs := false) (maxSteps := 4000000) only [go_sem]
 ·have hj := (List.getElem?_eq_some_iff.1 hr).1
  have hlt : (j : Int) < l.length := by omega
  have d1 := recL_at hr
  cases c1 : (r.kind == 3) with
  | true =>
   obtain ⟨j', r', h1, h2, h3, h4, h5⟩ := got_back ho hr hg (by simpa using c1) hc
   have e1 : fIxR (gotR r.num) l = j' := by rw [gotN_ix, h1]
   simp (decide := true) (implicitDefEqProofs := false) (maxSteps := 4000000) only [go_sem, hlt, d1, recT, c1, e1]
   refine hI1 _ ⟨j', _, r', h3, h4, h5⟩ (by simp only; omega) ?_
   simp (decide := true) (implicitDefEqProofs := false) (maxSteps := 4000000) only [go_sem]
  | false =>
   have e1 := got_end hr hg (by simpa using c1) hc
   subst e1
   simp (decide := true) (implicitDefEqProofs := false) (maxSteps := 4000000) only [go_sem, hlt, d1, recT, c1]
   refine hQ1 _ _ ?_
   simp (decide := true) (implicitDefEqProofs := false) (maxSteps := 4000000) only [go_sem]
noncomputable def spWb1 (l : List WRec) (s : TV) (n d : Int) (i : Nat) : Pm.Spec := (((noSpec.one 95 (oneP [.fn 96 [] [.cptr [.int .i64 n], .cptr [.int .i64 d]], s] (.int .i64 (fIxR (goneD n d) l)))).one 94 (oneP [s, .int .i64 n] (.int .i64 (fIxR (gotR n) l)))).one 97 (oneP [s, .int .i64 n] (.int .i64 i))).gdt.frz
noncomputable def spWb0 (l : List WRec) (s : TV) (n d : Int) : Pm.Spec := ((noSpec.one 95 (oneP [.fn 96 [] [.cptr [.int .i64 n], .cptr [.int .i64 d]], s] (.int .i64 (fIxR (goneD n d) l)))).one 94 (oneP [s, .int .i64 n] (.int .i64 (fIxR (gotR n) l)))).gdt.frz
theorem spWb0_ok {l : List WRec} {s : TV} (hs : bkT s l) (hl : l.length ≤ 40) (n d : Int) : SpecOk Tryd.prog (spWb0 l s n d) := Spec.frz_ok (Spec.gdt_ok (Spec.one_ok (oneP_ok (wGot_c hs (by omega) n)) (Spec.one_ok (oneP_ok (wFirst_c hs (by omega) (wBearer1_c n d))) noSpec_ok)))
theorem spWb1_ok {l : List WRec} {s : TV} (hs : bkT s l) (hl : l.length ≤ 40) (n d : Int) {i : Nat} (hi : PCalls Tryd.prog 97 [s, .int .i64 n] (.int .i64 i)) : SpecOk Tryd.prog (spWb1 l s n d i) := Spec.frz_ok (Spec.gdt_ok (Spec.one_ok (oneP_ok hi) (Spec.one_ok (oneP_ok (wGot_c hs (by omega) n)) (Spec.one_ok (oneP_ok (wFirst_c hs (by omega) (wBearer1_c n d))) noSpec_ok))))
theorem fIxR_any (p : WRec → Bool) (l : List WRec) : decide (fIxR p l ≥ 0) = l.any p := by
 unfold fIxR
 cases h : l.findIdx? p with
 | none =>
  rw [List.findIdx?_eq_none_iff] at h
  have : l.any p = false := by
   rw [List.any_eq_false]; intro x hx; rw [h x hx]; decide
  rw [this]; rfl
 | some i =>
  obtain ⟨hi, h1, _⟩ := List.findIdx?_eq_some_iff_getElem.1 h
  have : l.any p = true := List.any_eq_true.2 ⟨l[i], List.getElem_mem _, h1⟩
  rw [this]; simp
theorem wBearer_c {s : TV} {l : List WRec} (hs : bkT s l) (hb : bookB l = true) (n d : Int) : PCalls Tryd.prog 70 [s, .int .i64 n, .int .i64 d] (.int .i64 (optI (bearN l n d))) := by
 have hb' := hb
 unfold bookB at hb'
 simp only [Bool.and_eq_true, decide_eq_true_eq] at hb'
 obtain ⟨hl, ho⟩ := hb'
 cases hj : gotN l n with
 | none =>
  refine pcalls_by Tryd.mixes (spWb0_ok hs hl n d) (fn := Tryd.f70) Tryd.func70 rfl (by kernel_rfl) (by show 3 ≤ _; decide) ?_
  have e0 : fIxR (gotR n) l = -1 := by rw [gotN_ix, hj]
  have e1 : bearN l n d = none := bearN_none hj
  simp (decide := true) (implicitDefEqProofs := false) (maxSteps := 4000000) only [go_sem, Tryd.f70, spWb0, e0, e1, optI]
 | some j =>
  obtain ⟨r, hr, hg⟩ := gotN_some hj
  have hjl := (List.getElem?_eq_some_iff.1 hr).1
  obtain ⟨f, rfl⟩ : ∃ f, s = .sl (recL l) l.length f := by
   rcases hs with ⟨rfl, rfl⟩ | ⟨f, rfl⟩
   ·simp at hjl
   ·exact ⟨f, rfl⟩
  have e0 : fIxR (gotR n) l = j := by rw [gotN_ix, hj]
  have d1 := recL_at hr
  have hlt : (j : Int) < l.length := by omega
  have h0 : ¬ (j : Int) < 0 := by omega
  by_cases hd : r.day > d
  ·have e1 : bearN l n d = none := bearN_late ho hj hr hd
   refine pcalls_by Tryd.mixes (spWb0_ok hs hl n d) (fn := Tryd.f70) Tryd.func70 rfl (by kernel_rfl) (by show 3 ≤ _; decide) ?_
   simp (decide := true) (implicitDefEqProofs := false) (maxSteps := 4000000) only [go_sem, Tryd.f70, spWb0, e0, e1, optI, d1, recT, hlt, h0, hd]
  ·have e1 := bearN_gone ho hj hr (show r.day ≤ d by omega)
   obtain ⟨i, hi⟩ := got_born ho hr hg
   have ha := fIxR_any (goneD n d) l
   cases hany : l.any (goneD n d) with
   | true =>
    rw [hany, if_pos rfl] at e1
    rw [hany] at ha
    refine pcalls_by Tryd.mixes (spWb0_ok hs hl n d) (fn := Tryd.f70) Tryd.func70 rfl (by kernel_rfl) (by show 3 ≤ _; decide) ?_
    simp (decide := true) (implicitDefEqProofs := false) (maxSteps := 4000000) only [go_sem, Tryd.f70, spWb0, e0, e1, optI, d1, recT, hlt, h0, hd, freezeW, freezeO, frzC, thawP, thawC, ha]
   | false =>
    rw [hany, if_neg (by decide), hi] at e1
    rw [hany] at ha
    refine pcalls_by Tryd.mixes (spWb1_ok hs hl n d (wInstrument_c f hl ho hj hi)) (fn := Tryd.f70) Tryd.func70 rfl (by kernel_rfl) (by show 3 ≤ _; decide) ?_
    simp (decide := true) (implicitDefEqProofs := false) (maxSteps := 4000000) only [go_sem, Tryd.f70, spWb1, e0, e1, optI, d1, recT, hlt, h0, hd, freezeW, freezeO, frzC, thawP, thawC, ha]
end Go.Proofs.YtdkboibnokipaaaDoor

/- Part Wj. -/
namespace Go.Ow
open Go Go.RowKit Go.Pm
def traceP (l : List WRec) (n d : Int) : Int × Int := if bookB l then (if inW n 1 99999 && inW d 0 100000 then (match bearN l n d with | some i => ((i : Int), 0) | none => (0, 4)) else (0, 93)) else (0, 92)
def txT (l : List ByteArray) : TV := if l.length = 0 then .nilSl else .sl (l.map .str) l.length false
end Go.Ow
namespace Go.Proofs.YtdkboibnokipaaaDoor
open Go.RowKit Go.Pm Go.Ow
set_option maxRecDepth 100000
set_option linter.unusedVariables false
set_option maxHeartbeats 4000000
theorem bookB_iff {l : List WRec} : bookB l = true ↔ l.length ≤ 40 ∧ okTo l l.length = true := by unfold bookB; simp
theorem wTrace_c {s : TV} {l : List WRec} (hs : bkT s l) (hL : l.length ≤ 140737488355328) (n d : Int) : PCalls Tryd.prog 26 [s, .int .i64 n, .int .i64 d] (.tup [.int .i64 (traceP l n d).1, .int .i64 (traceP l n d).2]) := by
 cases hb : bookB l with
 | false =>
  have e : traceP l n d = (0, 92) := by unfold traceP; rw [hb]; rfl
  rw [e]
  refine pcalls_by Tryd.mixes (Spec.one_ok (oneP_ok (wCheckBook_c hs hL)) noSpec_ok) (fn := Tryd.f26) Tryd.func26 rfl (by kernel_rfl) (by show 3 ≤ _; decide) ?_
  simp (decide := true) (implicitDefEqProofs := false) (maxSteps := 4000000) only [go_sem, Tryd.f26, hb]
 | true =>
  have hl := (bookB_iff.1 hb).1
  have hB : ∀ n d, PCalls Tryd.prog 70 [s, .int .i64 n, .int .i64 d] (.int .i64 (optI (bearN l n d))) := fun n d => wBearer_c hs hb n d
  refine pcalls_by Tryd.mixes (Spec.gdt_ok (Spec.one_ok (oneP_ok (hB n d)) (Spec.one_ok wkIsDay_ok (Spec.one_ok wkIsNumber_ok (Spec.one_ok (oneP_ok (wCheckBook_c hs hL)) noSpec_ok))))) (fn := Tryd.f26) Tryd.func26 rfl (by kernel_rfl) (by show 3 ≤ _; decide) ?_
  cases c1 : inW n 1 99999 with
  | false =>
   have e : traceP l n d = (0, 93) := by unfold traceP; rw [hb, c1]; rfl
   rw [e]
   simp (decide := true) (implicitDefEqProofs := false) (maxSteps := 4000000) only [go_sem, Tryd.f26, hb, c1]
  | true =>
   cases c2 : inW d 0 100000 with
   | false =>
    have e : traceP l n d = (0, 93) := by unfold traceP; rw [hb, c1, c2]; rfl
    rw [e]
    simp (decide := true) (implicitDefEqProofs := false) (maxSteps := 4000000) only [go_sem, Tryd.f26, hb, c1, c2]
   | true =>
    cases c3 : bearN l n d with
    | none =>
     have e : traceP l n d = (0, 4) := by unfold traceP; rw [hb, c1, c2, c3]; rfl
     rw [e]
     simp (decide := true) (implicitDefEqProofs := false) (maxSteps := 4000000) only [go_sem, Tryd.f26, hb, c1, c2, c3, optI]
    | some i =>
     have e : traceP l n d = ((i : Int), 0) := by unfold traceP; rw [hb, c1, c2, c3]; rfl
     have h0 : ¬ (i : Int) < 0 := by omega
     rw [e]
     simp (decide := true) (implicitDefEqProofs := false) (maxSteps := 4000000) only [go_sem, Tryd.f26, hb, c1, c2, c3, optI, h0]
theorem wMarks_c {l : List WRec} (f : Bool) (hb : bookB l = true) (i : Nat) (d : Int) : PCalls Tryd.prog 75 [.sl (recL l) l.length f, .int .i64 i, .int .i64 d] (txT (marksK l i d l.length)) := by
 obtain ⟨hl, ho⟩ := bookB_iff.1 hb
 have hI : ∀ n v, ((match gotN l n with | some j => (cur l (j + 1) n).map fun (i : Nat) => TV.int .i64 (i : Int) | none => none) : Option TV) = some v → PCalls Tryd.prog 97 [.sl (recL l) l.length f, .int .i64 n] v := by
  intro n v e
  split at e
  ·rename_i j hj
   obtain ⟨i, hi, he⟩ := Option.map_eq_some_iff.1 e
   subst he
   exact wInstrument_c f hl ho hj hi
  ·cases e
 refine pcalls_by Tryd.mixes (Spec.gdt_ok (Spec.one_ok (byP_ok hI) noSpec_ok)) (fn := Tryd.f75) Tryd.func75 rfl (by kernel_rfl) (by show 3 ≤ _; decide) ?_
 simp (decide := true) (implicitDefEqProofs := false) (maxSteps := 4000000) only [go_sem, Tryd.f75]
 refine pwpC_loopU (A := { k : Nat // k ≤ l.length }) [0, 1, 2, 10, 11] (fun k => [(12, .t (.int .i64 k.1)), (7, .own ((marksK l i d k.1).map .str) (marksK l i d k.1).length 0)]) (fun k => [(0, .tok (marksK l i d k.1).length 9)]) (fun k => l.length - k.1) ⟨0, by omega⟩ (by decide) (fun _ => by rfl) ?_ fun Q1 hQ1 ⟨k, hk⟩ I1 hI1 => ?_
 ·simp (decide := true) (implicitDefEqProofs := false) (maxSteps := 4000000) only [go_sem, marksK, List.length_nil]
  first | done | exact ⟨rfl, rfl⟩ | rfl | trace_state
 ·by_cases hlt : (k : Int) < l.length
  ·obtain ⟨r, hr⟩ : ∃ r, l[k]? = some r := ⟨_, List.getElem?_eq_getElem (by omega)⟩
   have d1 := recL_at hr
   have hle : k * 5 + 5 ≤ (recL l).length := by rw [recL_len]; omega
   have hk1 : IntKind.i64.wrap ((k : Int) + 1) = ((k + 1 : Nat) : Int) := by rw [wrap_in (by omega) (by omega)]; omega
   have hms := marksK_succ (i := i) (d := d) hr
   have hml := marksK_len (l := l) (i := i) (d := d) (k := k)
   have hR := ok_rec ho (by omega) hr
   have skip : ¬ (r.kind = 2 ∧ r.day ≤ d ∧ cur l k r.num = some i) → marksK l i d (k + 1) = marksK l i d k := fun h => by rw [hms, if_neg h, List.append_nil]
   cases c1 : (r.kind == 2) with
   | false =>
    have e := skip (fun h => by rw [h.1] at c1; cases c1)
    simp (decide := true) (implicitDefEqProofs := false) (maxSteps := 4000000) only [go_sem, hlt, d1, hle, recT, c1]
    refine hI1 _ ⟨k + 1, by omega⟩ (by simp only; omega) ?_
    simp (decide := true) (implicitDefEqProofs := false) (maxSteps := 4000000) only [go_sem, hk1, e]
   | true =>
    by_cases c2 : r.day ≤ d
    ·have hu := (hR.mend (by simpa using c1)).2.2
     rw [used_cur (ok_less ho (by omega)) hR.num.1] at hu
     obtain ⟨x, hx⟩ := Option.isSome_iff_exists.1 hu
     obtain ⟨j', r', g1, g2, g3⟩ := cur_has hx
     have hf := cur_first ho (by omega) hx (by omega) g2 g3
     have hgn := gotN_of ho g2 g3
     cases c3 : ((x : Int) == i) with
     | false =>
      have hxi : x ≠ i := fun e => by rw [e] at c3; simp at c3
      have e := skip (fun h => by rw [hx] at h; exact hxi (Option.some.inj h.2.2))
      simp (decide := true) (implicitDefEqProofs := false) (maxSteps := 4000000) only [go_sem, hlt, d1, hle, recT, c1, c2, hgn, hf.2, c3]
      refine hI1 _ ⟨k + 1, by omega⟩ (by simp only; omega) ?_
      simp (decide := true) (implicitDefEqProofs := false) (maxSteps := 4000000) only [go_sem, hk1, e]
     | true =>
      have hxi : x = i := by have := beq_iff_eq.1 c3; omega
      have e : marksK l i d (k + 1) = marksK l i d k ++ [r.by_] := by rw [hms, if_pos ⟨by simpa using c1, c2, by rw [hx, hxi]⟩]
      have e1 : (marksK l i d (k + 1)).map TV.str = (marksK l i d k).map TV.str ++ [.str r.by_] := by rw [e, List.map_append]; rfl
      have e2 : (marksK l i d (k + 1)).length = (marksK l i d k).length + 1 := by rw [e, List.length_append]; rfl
      have hr16 : ((marksK l i d k).length + 1) * 16 ≤ 140737488355328 := by omega
      have hlm : ((marksK l i d k).map TV.str).length = (marksK l i d k).length := List.length_map _
      simp (decide := true) (implicitDefEqProofs := false) (maxSteps := 4000000) only [go_sem, hlt, d1, hle, recT, c1, c2, hgn, hf.2, c3, hr16, hlm, Nat.mul_one]
      refine hI1 _ ⟨k + 1, by omega⟩ (by simp only; omega) ?_
      simp (decide := true) (implicitDefEqProofs := false) (maxSteps := 4000000) only [go_sem, hk1, e1, e2]
    ·have e := skip (fun h => c2 h.2.1)
     simp (decide := true) (implicitDefEqProofs := false) (maxSteps := 4000000) only [go_sem, hlt, d1, hle, recT, c1, c2]
     refine hI1 _ ⟨k + 1, by omega⟩ (by simp only; omega) ?_
     simp (decide := true) (implicitDefEqProofs := false) (maxSteps := 4000000) only [go_sem, hk1, e]
  ·have hke : k = l.length := by omega
   subst hke
   simp (decide := true) (implicitDefEqProofs := false) (maxSteps := 4000000) only [go_sem, hlt]
   refine hQ1 _ _ ?_
   simp (decide := true) (implicitDefEqProofs := false) (maxSteps := 4000000) only [go_sem, txT]
   first | done | trace_state
end Go.Proofs.YtdkboibnokipaaaDoor

/- Part Wk. -/
namespace Go.Ow
open Go Go.RowKit Go.Pm
structure WCl where
 num : Int
 day : Int
 maker : ByteArray
 made : Int
 marks : List ByteArray
def clT (c : WCl) (s : TV) : TV := .agg [.int .i64 c.num, .int .i64 c.day, .str c.maker, .int .i64 c.made, s]
def headOk (c : WCl) : Bool := inW c.num 1 99999 && (inW c.day 0 100000 && (nameB c.maker && (inW c.made 0 100000 && decide (c.marks.length ≤ 40))))
def diffAt (a b : List ByteArray) (k : Nat) : Bool := decide (a.length ≤ k) || (decide (b.length ≤ k) || !decide (a.getD k ByteArray.empty = b.getD k ByteArray.empty))
def diffP (a b : List ByteArray) : Option Nat := (List.range (max a.length b.length)).find? (diffAt a b)
theorem diffP_some {a b : List ByteArray} {k : Nat} (hk : k < max a.length b.length) (hno : ∀ j, j < k → diffAt a b j = false) (h : diffAt a b k = true) : diffP a b = some k := by
 unfold diffP
 rw [List.find?_range_eq_some]
 exact ⟨h, List.mem_range.2 hk, fun j hj => by rw [hno j hj]; rfl⟩
theorem diffP_none {a b : List ByteArray} (hno : ∀ j, j < max a.length b.length → diffAt a b j = false) : diffP a b = none := by
 unfold diffP
 rw [List.find?_eq_none]
 intro j hj
 rw [hno j (List.mem_range.1 hj)]; decide
def judgeP (l : List WRec) (c : WCl) : (Int × Int) × Int :=
 if bookB l then
  if headOk c && c.marks.all nameB then
   match bearN l c.num c.day with
   | none => ((1, 0), 0)
   | some i => match l[i]? with
    | none => ((0, 0), 0)
    | some r => if ¬ r.by_ = c.maker then ((2, 0), 0) else if ¬ r.day = c.made then ((3, 0), 0) else
     match diffP (marksK l i c.day l.length) c.marks with
     | some k => ((4, (k : Int)), 0)
     | none => ((0, 0), 0)
  else ((0, 0), 93)
 else ((0, 0), 92)
def judT (x : (Int × Int) × Int) : TV := .tup [.agg [.int .i64 x.1.1, .int .i64 x.1.2], .int .i64 x.2]
theorem beqS (a b : ByteArray) : (a.toList == b.toList) = decide (a = b) := by
 rw [Bool.eq_iff_iff, beq_iff_eq, decide_eq_true_eq, ByteArray.toList_eq, ByteArray.toList_eq]
 constructor
 ·intro h
  cases a; cases b
  simp only [ByteArray.mk.injEq] at *
  exact Array.toList_inj.1 h
 ·rintro rfl; rfl
open Classical in
noncomputable def by2P (s0 : TV) (g : Int → Int → Option TV) : List TV → Option TV
 | [s, .int .i64 a, .int .i64 b] => if s = s0 then g a b else none
 | _ => none
open Classical in
@[go_sem] theorem by2P_eq (s0 s : TV) (g : Int → Int → Option TV) (a b : Int) : by2P s0 g [s, .int .i64 a, .int .i64 b] = if s = s0 then g a b else none := rfl
theorem by2P_ok {P : Program} {f : FuncId} {s0 : TV} {g : Int → Int → Option TV} (h : ∀ a b v, g a b = some v → PCalls P f [s0, .int .i64 a, .int .i64 b] v) : ∀ a r, by2P s0 g a = some r → PCalls P f a r := by
 intro a r e
 unfold by2P at e
 split at e
 ·split at e
  ·rename_i hc; subst hc; exact h _ _ _ e
  ·cases e
 ·cases e
end Go.Ow
namespace Go.Proofs.YtdkboibnokipaaaDoor
open Go.RowKit Go.Pm Go.Ow
set_option maxRecDepth 100000
set_option linter.unusedVariables false
set_option maxHeartbeats 4000000
noncomputable def spWk (l : List WRec) (s : TV) (g : Int → Int → Option TV) (h : Int → Int → Option TV) : Pm.Spec := (((((((spWa.one 68 wkIsNumber).one 69 wkIsDay).one 74 wkIsName).one 28 (oneP [s] (.int .i64 (if bookB l then 0 else 92)))).one 70 (by2P s g)).one 75 (by2P s h))).gdt
theorem spWk_ok {l : List WRec} {s : TV} {g h : Int → Int → Option TV} (hs : bkT s l) (hL : l.length ≤ 140737488355328) (hg : ∀ a b v, g a b = some v → PCalls Tryd.prog 70 [s, .int .i64 a, .int .i64 b] v) (hh : ∀ a b v, h a b = some v → PCalls Tryd.prog 75 [s, .int .i64 a, .int .i64 b] v) : SpecOk Tryd.prog (spWk l s g h) := Spec.gdt_ok (Spec.one_ok (by2P_ok hh) (Spec.one_ok (by2P_ok hg) (Spec.one_ok (oneP_ok (wCheckBook_c hs hL)) (Spec.one_ok wkIsName_ok (Spec.one_ok wkIsDay_ok (Spec.one_ok wkIsNumber_ok spWa_ok))))))
theorem wJudge_c {s m : TV} {l : List WRec} {c : WCl} (hs : bkT s l) (hL : l.length ≤ 140737488355328) (hm : txR m c.marks) (hM : c.marks.length ≤ 140737488355328) : PCalls Tryd.prog 30 [s, clT c m] (judT (judgeP l c)) := by
 obtain ⟨num, day, maker, made, marks⟩ := c
 simp only at hm hM
 rcases Bool.eq_false_or_eq_true (bookB l) with hb | hb
 rotate_left
 ·have e : judgeP l ⟨num, day, maker, made, marks⟩ = ((0, 0), 92) := by unfold judgeP; rw [hb]; rfl
  rw [e]
  refine pcalls_by Tryd.mixes (spWk_ok (g := fun _ _ => none) (h := fun _ _ => none) hs hL (fun _ _ _ h => by cases h) (fun _ _ _ h => by cases h)) (fn := Tryd.f30) Tryd.func30 rfl (by kernel_rfl) (by show 2 ≤ _; decide) ?_
  simp (decide := true) (implicitDefEqProofs := false) (maxSteps := 4000000) only [go_sem, Tryd.f30, hb, clT, judT, spWk]
 ·obtain ⟨hl, hok⟩ := bookB_iff.1 hb
  have hMk : ∀ a b v, (if 0 ≤ a ∧ l ≠ [] then some (txT (marksK l a.toNat b l.length)) else none) = some v → PCalls Tryd.prog 75 [s, .int .i64 a, .int .i64 b] v := by
   intro a b v h
   split at h
   ·rename_i hc
    cases h
    rcases hs with ⟨_, e⟩ | ⟨f, rfl⟩
    ·exact absurd e hc.2
    ·have := wMarks_c f hb a.toNat b
     rwa [Int.toNat_of_nonneg hc.1] at this
   ·cases h
  have hBr : ∀ a b v, some (TV.int .i64 (optI (bearN l a b))) = some v → PCalls Tryd.prog 70 [s, .int .i64 a, .int .i64 b] v := fun a b v h => by cases h; exact wBearer_c hs hb a b
  refine pcalls_by Tryd.mixes (spWk_ok hs hL hBr hMk) (fn := Tryd.f30) Tryd.func30 rfl (by kernel_rfl) (by show 2 ≤ _; decide) ?_
  rcases Bool.eq_false_or_eq_true (headOk ⟨num, day, maker, made, marks⟩) with ho | ho
  rotate_left
  ·have e : judgeP l ⟨num, day, maker, made, marks⟩ = ((0, 0), 93) := by unfold judgeP; rw [hb, ho]; rfl
   rw [e]
   have h5 : inW num 1 99999 = false ∨ (inW num 1 99999 = true ∧ (inW day 0 100000 = false ∨ (inW day 0 100000 = true ∧ (nameB maker = false ∨ (nameB maker = true ∧ (inW made 0 100000 = false ∨ (inW made 0 100000 = true ∧ ¬ (marks.length : Int) ≤ 40))))))) := by
    have ho : (inW num 1 99999 && (inW day 0 100000 && (nameB maker && (inW made 0 100000 && decide (marks.length ≤ 40))))) = false := ho
    by_cases h40 : marks.length ≤ 40
    ·rw [decide_eq_true h40] at ho
     revert ho
     cases inW num 1 99999 <;> cases inW day 0 100000 <;> cases nameB maker <;> cases inW made 0 100000 <;> simp
    ·have : ¬ (marks.length : Int) ≤ 40 := by omega
     cases inW num 1 99999 <;> cases inW day 0 100000 <;> cases nameB maker <;> cases inW made 0 100000 <;> simp [this]
   rcases hm with ⟨rfl, hn⟩ | ⟨gf, rfl⟩
   all_goals rcases h5 with c1 | ⟨c1, c2 | ⟨c2, c3 | ⟨c3, c4 | ⟨c4, c5⟩⟩⟩⟩
   all_goals first
    | (exfalso; rw [hn] at c5; simp at c5; done)
    | simp (decide := true) (implicitDefEqProofs := false) (maxSteps := 4000000) only [go_sem, Tryd.f30, hb, clT, judT, spWk, c1, c2, c3, c4, c5]
    | simp (decide := true) (implicitDefEqProofs := false) (maxSteps := 4000000) only [go_sem, Tryd.f30, hb, clT, judT, spWk, c1, c2, c3, c4]
    | simp (decide := true) (implicitDefEqProofs := false) (maxSteps := 4000000) only [go_sem, Tryd.f30, hb, clT, judT, spWk, c1, c2, c3]
    | simp (decide := true) (implicitDefEqProofs := false) (maxSteps := 4000000) only [go_sem, Tryd.f30, hb, clT, judT, spWk, c1, c2]
    | simp (decide := true) (implicitDefEqProofs := false) (maxSteps := 4000000) only [go_sem, Tryd.f30, hb, clT, judT, spWk, c1]
   all_goals
    refine pwpC_loopU (A := { k : Nat // k ≤ marks.length }) [3, 4, 5, 45, 46] (fun k => [(47, .t (.int .i64 k.1)), (7, .t (.bool false))]) (fun _ => []) (fun k => marks.length - k.1) ⟨0, Nat.zero_le _⟩ (by decide) (fun _ => by rfl) ?_ fun Q1 hQ1 ⟨k, hk⟩ I1 hI1 => ?_
    ·simp (decide := true) (implicitDefEqProofs := false) (maxSteps := 4000000) only [go_sem]
    ·have h00 : ¬ (k : Int) < 0 := by omega
     by_cases hlt : (k : Int) < marks.length
     ·first
       | (exfalso; rw [hn] at hlt; simp at hlt; omega)
       | (obtain ⟨x, hx⟩ : ∃ x, marks[k]? = some x := ⟨_, List.getElem?_eq_getElem (by omega)⟩
          have d1 := txs_at hx
          have hk1 : IntKind.i64.wrap ((k : Int) + 1) = ((k + 1 : Nat) : Int) := by rw [wrap_in (by omega) (by omega)]; omega
          simp (decide := true) (implicitDefEqProofs := false) (maxSteps := 4000000) only [go_sem, hlt, d1, Nat.mul_one]
          refine hI1 _ ⟨k + 1, by omega⟩ (by simp only; omega) ?_
          simp (decide := true) (implicitDefEqProofs := false) (maxSteps := 4000000) only [go_sem, hk1])
     ·simp (decide := true) (implicitDefEqProofs := false) (maxSteps := 4000000) only [go_sem, hlt, h00]
      refine hQ1 _ _ ?_
      simp (decide := true) (implicitDefEqProofs := false) (maxSteps := 4000000) only [go_sem, judT]
  ·have ho' := ho
   unfold headOk at ho'
   simp only [Bool.and_eq_true, decide_eq_true_eq] at ho'
   obtain ⟨c1, c2, c3, c4, c5⟩ := ho'
   have c5' : (marks.length : Int) ≤ 40 := by omega
   rcases hm with ⟨rfl, hn⟩ | ⟨gf, rfl⟩
   all_goals simp (decide := true) (implicitDefEqProofs := false) (maxSteps := 4000000) only [go_sem, Tryd.f30, hb, clT, spWk, c1, c2, c3, c4, c5']
   all_goals
    refine pwpC_loopU (A := { k : Nat // k ≤ marks.length }) [0, 3, 4, 5, 45, 46] (fun k => [(47, .t (.int .i64 k.1)), (7, .t (.bool ((marks.take k.1).all nameB)))]) (fun _ => []) (fun k => marks.length - k.1) ⟨0, Nat.zero_le _⟩ (by decide) (fun _ => by rfl) ?_ fun Q1 hQ1 ⟨k, hk⟩ I1 hI1 => ?_
    ·simp (decide := true) (implicitDefEqProofs := false) (maxSteps := 4000000) only [go_sem, List.take_zero, List.all_nil]
    ·have h00 : ¬ (k : Int) < 0 := by omega
     by_cases hlt : (k : Int) < marks.length
     ·first
       | (exfalso; rw [hn] at hlt; simp at hlt; omega)
       | (obtain ⟨x, hx⟩ : ∃ x, marks[k]? = some x := ⟨_, List.getElem?_eq_getElem (by omega)⟩
          have d1 := txs_at hx
          have hk1 : IntKind.i64.wrap ((k : Int) + 1) = ((k + 1 : Nat) : Int) := by rw [wrap_in (by omega) (by omega)]; omega
          have hta : (marks.take (k + 1)).all nameB = ((marks.take k).all nameB && nameB x) := by rw [List.take_add_one, hx, List.all_append]; simp
          rcases Bool.eq_false_or_eq_true ((marks.take k).all nameB) with ht | ht
          ·rw [ht, Bool.true_and] at hta
           simp (decide := true) (implicitDefEqProofs := false) (maxSteps := 4000000) only [go_sem, hlt, d1, Nat.mul_one, ht]
           refine hI1 _ ⟨k + 1, by omega⟩ (by simp only; omega) ?_
           simp (decide := true) (implicitDefEqProofs := false) (maxSteps := 4000000) only [go_sem, hk1, hta]
          ·rw [ht, Bool.false_and] at hta
           simp (decide := true) (implicitDefEqProofs := false) (maxSteps := 4000000) only [go_sem, hlt, d1, Nat.mul_one, ht]
           refine hI1 _ ⟨k + 1, by omega⟩ (by simp only; omega) ?_
           simp (decide := true) (implicitDefEqProofs := false) (maxSteps := 4000000) only [go_sem, hk1, hta])
     ·have hke : k = marks.length := by omega
      subst hke
      rcases Bool.eq_false_or_eq_true (marks.all nameB) with ha | ha
      rotate_left
      ·have e : judgeP l ⟨num, day, maker, made, marks⟩ = ((0, 0), 93) := by unfold judgeP; rw [hb, ho]; simp only [ha]; rfl
       simp (decide := true) (implicitDefEqProofs := false) (maxSteps := 4000000) only [go_sem, hlt, h00, List.take_length, ha]
       refine hQ1 _ _ ?_
       simp (decide := true) (implicitDefEqProofs := false) (maxSteps := 4000000) only [go_sem, judT, e, List.take_length, ha]
      ·have e : judgeP l ⟨num, day, maker, made, marks⟩ = (match bearN l num day with
         | none => ((1, 0), 0)
         | some i => match l[i]? with
          | none => ((0, 0), 0)
          | some r => if ¬ r.by_ = maker then ((2, 0), 0) else if ¬ r.day = made then ((3, 0), 0) else
           match diffP (marksK l i day l.length) marks with
           | some k => ((4, (k : Int)), 0)
           | none => ((0, 0), 0)) := by unfold judgeP; rw [hb, ho]; simp only [ha]; rfl
       cases hB : bearN l num day with
       | none =>
        rw [hB] at e
        simp (decide := true) (implicitDefEqProofs := false) (maxSteps := 4000000) only [go_sem, hlt, h00, List.take_length, ha]
        refine hQ1 _ _ ?_
        simp (decide := true) (implicitDefEqProofs := false) (maxSteps := 4000000) only [go_sem, judT, e, List.take_length, ha, hB, optI]
       | some i =>
        rw [hB] at e
        obtain ⟨r, hr, hk1⟩ := cur_made hB
        simp only [hr] at e
        have hil := (List.getElem?_eq_some_iff.1 hr).1
        have hlt2 : (i : Int) < l.length := by omega
        have hi0 : ¬ (i : Int) < 0 := by omega
        have hne : ¬ l = [] := fun e => by rw [e] at hil; simp at hil
        have d1 := recL_at hr
        obtain ⟨f, rfl⟩ : ∃ f, s = .sl (recL l) l.length f := by
         rcases hs with ⟨rfl, e⟩ | ⟨f, rfl⟩
         ·exact absurd e hne
         ·exact ⟨f, rfl⟩
        have hbs := beqS r.by_ maker
        by_cases hmk : r.by_ = maker
        rotate_left
        ·rw [if_pos hmk] at e
         rw [decide_eq_false hmk] at hbs
         simp (decide := true) (implicitDefEqProofs := false) (maxSteps := 4000000) only [go_sem, hlt, h00, List.take_length, ha]
         refine hQ1 _ _ ?_
         simp (decide := true) (implicitDefEqProofs := false) (maxSteps := 4000000) only [go_sem, judT, e, List.take_length, ha, hB, optI, hi0, hlt2, d1, recT, hbs]
        ·rw [if_neg (fun h => h hmk)] at e
         rw [decide_eq_true hmk] at hbs
         by_cases hmd : r.day = made
         rotate_left
         ·rw [if_pos hmd] at e
          have hmd' := bne_int_t hmd
          simp (decide := true) (implicitDefEqProofs := false) (maxSteps := 4000000) only [go_sem, hlt, h00, List.take_length, ha]
          refine hQ1 _ _ ?_
          simp (decide := true) (implicitDefEqProofs := false) (maxSteps := 4000000) only [go_sem, judT, e, List.take_length, ha, hB, optI, hi0, hlt2, d1, recT, hbs, hmd']
         ·rw [if_neg (fun h => h hmd)] at e
          have hmd' := bne_int_f hmd
          have htl := marksK_len (l := l) (i := i) (d := day) (k := l.length)
          simp (decide := true) (implicitDefEqProofs := false) (maxSteps := 4000000) only [go_sem, hlt, h00, List.take_length, ha]
          refine hQ1 _ _ ?_
          generalize hM2 : marksK l i day l.length = M at *
          by_cases hM0 : M.length = 0
          all_goals simp (decide := true) (implicitDefEqProofs := false) (maxSteps := 4000000) only [go_sem, List.take_length, ha, hB, optI, hi0, hlt2, d1, recT, hbs, hmd', hne, hM2, txT, hM0]
          all_goals
           refine pwpC_loopU (A := { k : Nat // k ≤ max M.length marks.length ∧ ∀ j, j < k → diffAt M marks j = false }) [3, 4, 5, 12] (fun k => [(102, .t (.int .i64 k.1)), (101, .t (.int .i64 ((max M.length marks.length : Nat) : Int)))]) (fun _ => []) (fun k => max M.length marks.length - k.1) ⟨0, Nat.zero_le _, fun j hj => absurd hj (by omega)⟩ (by decide) (fun _ => by rfl) ?_ fun Q2 hQ2 ⟨k, hk, hno⟩ I2 hI2 => ?_
           ·have hml : marks.length = marks.length := rfl
            simp (decide := true) (implicitDefEqProofs := false) (maxSteps := 4000000) only [go_sem]
            first | done | omega | (rw [hn]; simp only [List.length_nil]; omega)
           ·have hk1 : IntKind.i64.wrap ((k : Int) + 1) = ((k + 1 : Nat) : Int) := by rw [wrap_in (by omega) (by omega)]; omega
            by_cases hlt3 : (k : Int) < ((max M.length marks.length : Nat) : Int)
            ·have h1z : (k : Int) ≥ 0 := by omega
             by_cases h1 : (k : Int) ≥ M.length
             ·have hdf : diffAt M marks k = true := by unfold diffAt; rw [decide_eq_true (show M.length ≤ k by omega)]; rfl
              have hdp := diffP_some (by omega) hno hdf
              rw [hdp] at e
              simp (decide := true) (implicitDefEqProofs := false) (maxSteps := 4000000) only [go_sem, hlt3, h1, h1z]
              refine hQ2 _ _ ?_
              simp (decide := true) (implicitDefEqProofs := false) (maxSteps := 4000000) only [go_sem, e, judT]
             ·by_cases h2 : (k : Int) ≥ marks.length
              ·have hdf : diffAt M marks k = true := by unfold diffAt; rw [decide_eq_true (show marks.length ≤ k by omega)]; simp
               have hdp := diffP_some (by omega) hno hdf
               rw [hdp] at e
               first
                | (exfalso; omega)
                | (simp (decide := true) (implicitDefEqProofs := false) (maxSteps := 4000000) only [go_sem, hlt3, h1, h2, h1z]
                   refine hQ2 _ _ ?_
                   simp (decide := true) (implicitDefEqProofs := false) (maxSteps := 4000000) only [go_sem, e, judT])
              ·first
                | (exfalso; omega)
                | (exfalso; rw [hn] at h2; simp only [List.length_nil] at h2; omega)
                | (obtain ⟨x, hx⟩ : ∃ x, M[k]? = some x := ⟨_, List.getElem?_eq_getElem (by omega)⟩
                   obtain ⟨y, hy⟩ : ∃ x, marks[k]? = some x := ⟨_, List.getElem?_eq_getElem (by omega)⟩
                   have dx := txs_at hx
                   have dy := txs_at hy
                   have h1' : (k : Int) < M.length := by omega
                   have h2' : (k : Int) < marks.length := by omega
                   have gx : M.getD k ByteArray.empty = x := by rw [List.getD_eq_getElem?_getD, hx]; rfl
                   have gy : marks.getD k ByteArray.empty = y := by rw [List.getD_eq_getElem?_getD, hy]; rfl
                   have hxy := beqS x y
                   have hdd : diffAt M marks k = !decide (x = y) := by unfold diffAt; rw [gx, gy, decide_eq_false (show ¬ M.length ≤ k by omega), decide_eq_false (show ¬ marks.length ≤ k by omega)]; rfl
                   by_cases he : x = y
                   ·rw [decide_eq_true he] at hxy hdd
                    simp (decide := true) (implicitDefEqProofs := false) (maxSteps := 4000000) only [go_sem, hlt3, h1, h2, h1', h2', dx, dy, Nat.mul_one, hxy]
                    refine hI2 _ ⟨k + 1, by omega, fun j hj => ?_⟩ (by simp only; omega) ?_
                    ·by_cases ej : j = k
                     ·subst ej; exact hdd
                     ·exact hno j (by omega)
                    ·simp (decide := true) (implicitDefEqProofs := false) (maxSteps := 4000000) only [go_sem, hk1]
                   ·rw [decide_eq_false he] at hxy hdd
                    have hdp := diffP_some (by omega) hno hdd
                    rw [hdp] at e
                    simp (decide := true) (implicitDefEqProofs := false) (maxSteps := 4000000) only [go_sem, hlt3, h1, h2, h1', h2', dx, dy, Nat.mul_one, hxy]
                    refine hQ2 _ _ ?_
                    simp (decide := true) (implicitDefEqProofs := false) (maxSteps := 4000000) only [go_sem, e, judT])
            ·have hdp : diffP M marks = none := diffP_none fun j hj => hno j (by omega)
             rw [hdp] at e
             simp (decide := true) (implicitDefEqProofs := false) (maxSteps := 4000000) only [go_sem, hlt3]
             refine hQ2 _ _ ?_
             simp (decide := true) (implicitDefEqProofs := false) (maxSteps := 4000000) only [go_sem, e, judT]
end Go.Proofs.YtdkboibnokipaaaDoor

/- Part W5. -/
namespace Go.Ow
open Go Go.RowKit Go.Pm
theorem bneS (a b : ByteArray) : (a.toList != b.toList) = !decide (a = b) := by
 rw [← beqS]; rfl
end Go.Ow
namespace Go.Proofs.YtdkboibnokipaaaDoor
open Go.RowKit Go.Pm Go.Ow
set_option maxRecDepth 100000
set_option linter.unusedVariables false
set_option maxHeartbeats 8000000
theorem txR_len {s : TV} {l : List ByteArray} (h : txR s l) : (l.length = 0 ∧ (s = .nilSl ∨ ∃ f, s = .sl [] 0 f) ∧ l = []) ∨ (0 < l.length ∧ ∃ f, s = .sl (l.map .str) l.length f) := by
 rcases h with ⟨rfl, rfl⟩ | ⟨f, rfl⟩
 ·exact .inl ⟨rfl, .inl rfl, rfl⟩
 ·cases l with
  | nil => exact .inl ⟨rfl, .inr ⟨f, rfl⟩, rfl⟩
  | cons x l => exact .inr ⟨Nat.succ_pos _, f, rfl⟩
theorem rSameTexts_c {s t : TV} {l m : List ByteArray} (h1 : txR s l) (h2 : txR t m) (hb : l.length ≤ 140737488355328) : PCalls Tryd.prog 56 [s, t] (.bool (decide (l = m))) := by
 refine pcalls_by Tryd.mixes noSpec_ok (fn := Tryd.f56) Tryd.func56 rfl (by kernel_rfl) (by show 2 ≤ _; decide) ?_
 rcases txR_len h1 with ⟨_, hs, rfl⟩ | ⟨hl, f, rfl⟩
 ·rcases txR_len h2 with ⟨_, ht, rfl⟩ | ⟨hm, g, rfl⟩
  ·rcases hs with rfl | ⟨f, rfl⟩
   all_goals rcases ht with rfl | ⟨g, rfl⟩
   all_goals
    simp (decide := true) (implicitDefEqProofs := false) (maxSteps := 4000000) only [go_sem, Tryd.f56]
    refine pwpC_loopU (A := Unit) [0, 1] (fun _ => [(5, .t (.int .i64 0))]) (fun _ => []) (fun _ => 0) () (by decide) (fun _ => by rfl) ?_ fun Q1 hQ1 ⟨⟩ I1 hI1 => ?_
    ·simp (decide := true) (implicitDefEqProofs := false) (maxSteps := 4000000) only [go_sem]
    ·simp (decide := true) (implicitDefEqProofs := false) (maxSteps := 4000000) only [go_sem]
     refine hQ1 _ _ ?_
     simp (decide := true) (implicitDefEqProofs := false) (maxSteps := 4000000) only [go_sem]
     first | done | rfl | trace_state
  ·have hne : decide (([] : List ByteArray) = m) = false := by
    rw [decide_eq_false_iff_not]; rintro rfl; simp at hm
   have hc : ((0 : Int) != (m.length : Int)) = true := by simp; omega
   rcases hs with rfl | ⟨f, rfl⟩
   ·simp (decide := true) (implicitDefEqProofs := false) (maxSteps := 4000000) only [go_sem, Tryd.f56, hc, hne]
   ·simp (decide := true) (implicitDefEqProofs := false) (maxSteps := 4000000) only [go_sem, Tryd.f56, hc, hne]
 ·rcases txR_len h2 with ⟨_, ht, rfl⟩ | ⟨hm, g, rfl⟩
  ·have hne : decide (l = []) = false := by
    rw [decide_eq_false_iff_not]; rintro rfl; simp at hl
   have hc : ((l.length : Int) != 0) = true := bne_int_t (by omega)
   rcases ht with rfl | ⟨f, rfl⟩
   ·simp (decide := true) (implicitDefEqProofs := false) (maxSteps := 4000000) only [go_sem, Tryd.f56, hc, hne]
   ·simp (decide := true) (implicitDefEqProofs := false) (maxSteps := 4000000) only [go_sem, Tryd.f56, hc, hne]
  ·by_cases hlm : l.length = m.length
   ·have hc : ((l.length : Int) != (m.length : Int)) = false := bne_int_f (by omega)
    simp (decide := true) (implicitDefEqProofs := false) (maxSteps := 4000000) only [go_sem, Tryd.f56, hc]
    refine pwpC_loopU (A := { k : Nat // k ≤ l.length ∧ ∀ j, j < k → l[j]? = m[j]? }) [0, 1] (fun k => [(5, .t (.int .i64 k.1))]) (fun _ => []) (fun k => l.length - k.1) ⟨0, by omega, fun j h => absurd h (by omega)⟩ (by decide) (fun _ => by rfl) ?_ fun Q1 hQ1 ⟨k, hk, hall⟩ I1 hI1 => ?_
    ·simp (decide := true) (implicitDefEqProofs := false) (maxSteps := 4000000) only [go_sem]
    ·by_cases hlt : (k : Int) < l.length
     ·obtain ⟨x, hx⟩ : ∃ x, l[k]? = some x := ⟨_, List.getElem?_eq_getElem (by omega)⟩
      obtain ⟨y, hy⟩ : ∃ y, m[k]? = some y := ⟨_, List.getElem?_eq_getElem (by omega)⟩
      have dx := txs_at hx
      have dy := txs_at hy
      have hlt2 : (k : Int) < m.length := by omega
      have hk1 : IntKind.i64.wrap ((k : Int) + 1) = ((k + 1 : Nat) : Int) := by rw [wrap_in (by omega) (by omega)]; omega
      have hbn := beqS x y
      by_cases e : x = y
      ·rw [decide_eq_true e] at hbn
       simp (decide := true) (implicitDefEqProofs := false) (maxSteps := 4000000) only [go_sem, hlt, hlt2, dx, dy, hbn, Nat.mul_one]
       refine hI1 _ ⟨k + 1, by omega, fun j hj => ?_⟩ (by simp only; omega) ?_
       ·by_cases ej : j = k
        ·subst ej; rw [hx, hy, e]
        ·exact hall j (by omega)
       ·simp (decide := true) (implicitDefEqProofs := false) (maxSteps := 4000000) only [go_sem, hk1]
      ·rw [decide_eq_false e] at hbn
       have hne : decide (l = m) = false := by
        rw [decide_eq_false_iff_not]
        rintro rfl
        rw [hx] at hy
        exact e (Option.some.inj hy)
       simp (decide := true) (implicitDefEqProofs := false) (maxSteps := 4000000) only [go_sem, hlt, hlt2, dx, dy, hbn, Nat.mul_one]
       refine hQ1 _ _ ?_
       simp (decide := true) (implicitDefEqProofs := false) (maxSteps := 4000000) only [go_sem, hne]
     ·have hle : decide (l = m) = true := by
       rw [decide_eq_true_eq]
       apply List.ext_getElem?
       intro j
       by_cases hj : j < l.length
       ·exact hall j (by omega)
       ·rw [List.getElem?_eq_none (by omega), List.getElem?_eq_none (by omega)]
      simp (decide := true) (implicitDefEqProofs := false) (maxSteps := 4000000) only [go_sem, hlt]
      refine hQ1 _ _ ?_
      simp (decide := true) (implicitDefEqProofs := false) (maxSteps := 4000000) only [go_sem, hle]
   ·have hc : ((l.length : Int) != (m.length : Int)) = true := bne_int_t (by omega)
    have hne : decide (l = m) = false := by
     rw [decide_eq_false_iff_not]; rintro rfl; exact hlm rfl
    simp (decide := true) (implicitDefEqProofs := false) (maxSteps := 4000000) only [go_sem, Tryd.f56, hc, hne]
open Classical in
noncomputable def rSm (p q : List (List ByteArray)) : List TV → Option TV
 | [s, t] => if h : ∃ (l m : List ByteArray), txR s l ∧ txR t m ∧ l ∈ p then some (.bool (decide (Classical.choose h = Classical.choose (Classical.choose_spec h)))) else none
 | _ => none
open Classical in
theorem rSm_of {p q : List (List ByteArray)} {s t : TV} {l m : List ByteArray} (h1 : txR s l) (h2 : txR t m) (hl : l ∈ p) : rSm p q [s, t] = some (.bool (decide (l = m))) := by
 have h : ∃ (l m : List ByteArray), txR s l ∧ txR t m ∧ l ∈ p := ⟨l, m, h1, h2, hl⟩
 have hs := Classical.choose_spec (Classical.choose_spec h)
 have e1 := txR_inj hs.1 h1
 have e2 := txR_inj hs.2.1 h2
 show (if h : ∃ (l m : List ByteArray), txR s l ∧ txR t m ∧ l ∈ p then some (TV.bool (decide (Classical.choose h = Classical.choose (Classical.choose_spec h)))) else none) = _
 rw [dif_pos h]
 have : decide (Classical.choose h = Classical.choose (Classical.choose_spec h)) = decide (l = m) := decide_eq_decide.2 ⟨fun e => e1.symm.trans (e.trans e2), fun e => e1.trans (e.trans e2.symm)⟩
 rw [this]
theorem rSm_ok {p q : List (List ByteArray)} (hb : ∀ l ∈ p, l.length ≤ 140737488355328) : ∀ a r, rSm p q a = some r → PCalls Tryd.prog 56 a r := by
 intro a r e
 unfold rSm at e
 split at e
 ·split at e
  ·rename_i h
   cases e
   have hs := Classical.choose_spec (Classical.choose_spec h)
   exact rSameTexts_c hs.1 hs.2.1 (hb _ hs.2.2)
  ·cases e
 ·cases e
theorem pgR_len {s : TV} {p : List (List ByteArray)} (h : pgR s p) : (p.length = 0 ∧ (s = .nilSl ∨ ∃ f, s = .sl [] 0 f) ∧ p = []) ∨ (0 < p.length ∧ ∃ rs f, s = .sl rs p.length f ∧ rs.length = p.length ∧ ∀ (k : Nat) (r : List ByteArray) (t : TV), p[k]? = some r → rs[k]? = some t → txR t r) := by
 rcases h with ⟨rfl, rfl⟩ | ⟨rs, f, rfl, h1, h2⟩
 ·exact .inl ⟨rfl, .inl rfl, rfl⟩
 ·cases p with
  | nil =>
   have : rs = [] := List.eq_nil_of_length_eq_zero h1
   subst this
   exact .inl ⟨rfl, .inr ⟨f, rfl⟩, rfl⟩
  | cons x l => exact .inr ⟨Nat.succ_pos _, rs, f, rfl, h1, h2⟩
theorem rSamePages_c {s t : TV} {p q : List (List ByteArray)} (h1 : pgR s p) (h2 : pgR t q) (hb : p.length ≤ 140737488355328) (hb2 : ∀ l ∈ p, l.length ≤ 140737488355328) : PCalls Tryd.prog 16 [s, t] (.bool (decide (p = q))) := by
 refine pcalls_by Tryd.mixes (Spec.gdt_ok (Spec.one_ok (rSm_ok (p := p) (q := q) hb2) noSpec_ok)) (fn := Tryd.f16) Tryd.func16 rfl (by kernel_rfl) (by show 2 ≤ _; decide) ?_
 rcases pgR_len h1 with ⟨_, hs, rfl⟩ | ⟨hl, rs, f, rfl, hrl, hrs⟩
 ·rcases pgR_len h2 with ⟨_, ht, rfl⟩ | ⟨hm, rt, g, rfl, htl, hrt⟩
  ·rcases hs with rfl | ⟨f, rfl⟩
   all_goals rcases ht with rfl | ⟨g, rfl⟩
   all_goals
    simp (decide := true) (implicitDefEqProofs := false) (maxSteps := 4000000) only [go_sem, Tryd.f16]
    refine pwpC_loopU (A := Unit) [0, 1, 5] (fun _ => [(6, .t (.int .i64 0))]) (fun _ => []) (fun _ => 0) () (by decide) (fun _ => by rfl) ?_ fun Q1 hQ1 ⟨⟩ I1 hI1 => ?_
    ·simp (decide := true) (implicitDefEqProofs := false) (maxSteps := 4000000) only [go_sem]
    ·simp (decide := true) (implicitDefEqProofs := false) (maxSteps := 4000000) only [go_sem]
     refine hQ1 _ _ ?_
     simp (decide := true) (implicitDefEqProofs := false) (maxSteps := 4000000) only [go_sem]
     first | done | rfl | trace_state
  ·have hne : decide (([] : List (List ByteArray)) = q) = false := by
    rw [decide_eq_false_iff_not]; rintro rfl; simp at hm
   have hc : ((0 : Int) == (q.length : Int)) = false := by simp; omega
   rcases hs with rfl | ⟨f, rfl⟩
   all_goals
    simp (decide := true) (implicitDefEqProofs := false) (maxSteps := 4000000) only [go_sem, Tryd.f16, hc, hne]
    refine pwpC_loopU (A := Unit) [0, 1, 5] (fun _ => [(6, .t (.int .i64 0))]) (fun _ => []) (fun _ => 0) () (by decide) (fun _ => by rfl) ?_ fun Q1 hQ1 ⟨⟩ I1 hI1 => ?_
    ·simp (decide := true) (implicitDefEqProofs := false) (maxSteps := 4000000) only [go_sem]
    ·simp (decide := true) (implicitDefEqProofs := false) (maxSteps := 4000000) only [go_sem]
     refine hQ1 _ _ ?_
     simp (decide := true) (implicitDefEqProofs := false) (maxSteps := 4000000) only [go_sem]
     first | done | rfl | trace_state
 ·by_cases hlm : p.length = q.length
  rotate_left
  ·have hne : decide (p = q) = false := by
    rw [decide_eq_false_iff_not]; rintro rfl; exact hlm rfl
   have hc : ((p.length : Int) == (q.length : Int)) = false := by simpa using fun e => hlm (by omega)
   rcases pgR_len h2 with ⟨_, ht, rfl⟩ | ⟨hm, rt, g, rfl, htl, hrt⟩
   ·have hc : ((p.length : Int) == 0) = false := by simpa using fun e => hlm (by simp [e])
    rcases ht with rfl | ⟨g, rfl⟩
    all_goals
     simp (decide := true) (implicitDefEqProofs := false) (maxSteps := 4000000) only [go_sem, Tryd.f16, hc, hne]
     refine pwpC_loopU (A := Unit) [0, 1, 5] (fun _ => [(6, .t (.int .i64 0))]) (fun _ => []) (fun _ => 0) () (by decide) (fun _ => by rfl) ?_ fun Q1 hQ1 ⟨⟩ I1 hI1 => ?_
     ·simp (decide := true) (implicitDefEqProofs := false) (maxSteps := 4000000) only [go_sem]
     ·simp (decide := true) (implicitDefEqProofs := false) (maxSteps := 4000000) only [go_sem]
      refine hQ1 _ _ ?_
      simp (decide := true) (implicitDefEqProofs := false) (maxSteps := 4000000) only [go_sem]
      first | done | rfl | trace_state
   ·simp (decide := true) (implicitDefEqProofs := false) (maxSteps := 4000000) only [go_sem, Tryd.f16, hc, hne]
    refine pwpC_loopU (A := Unit) [0, 1, 5] (fun _ => [(6, .t (.int .i64 0))]) (fun _ => []) (fun _ => 0) () (by decide) (fun _ => by rfl) ?_ fun Q1 hQ1 ⟨⟩ I1 hI1 => ?_
    ·simp (decide := true) (implicitDefEqProofs := false) (maxSteps := 4000000) only [go_sem]
    ·simp (decide := true) (implicitDefEqProofs := false) (maxSteps := 4000000) only [go_sem]
     refine hQ1 _ _ ?_
     simp (decide := true) (implicitDefEqProofs := false) (maxSteps := 4000000) only [go_sem]
     first | done | rfl | trace_state
  ·obtain ⟨rt, g, rfl, htl, hrt⟩ : ∃ rs f, t = .sl rs q.length f ∧ rs.length = q.length ∧ ∀ (k : Nat) (r : List ByteArray) (t : TV), q[k]? = some r → rs[k]? = some t → txR t r := by
    rcases pgR_len h2 with ⟨h, _⟩ | ⟨_, h⟩
    ·omega
    ·exact h
   have hc : ((p.length : Int) == (q.length : Int)) = true := by simp; omega
   simp (decide := true) (implicitDefEqProofs := false) (maxSteps := 4000000) only [go_sem, Tryd.f16, hc]
   refine pwpC_loopU (A := { x : Nat × Bool // x.1 ≤ p.length ∧ (x.2 = true → ∀ j, j < x.1 → p[j]? = q[j]?) ∧ (x.2 = false → p ≠ q) }) [0, 1] (fun x => [(6, .t (.int .i64 x.1.1)), (5, .t (.bool x.1.2))]) (fun _ => []) (fun x => p.length - x.1.1) ⟨(0, true), by simp, fun _ j h => absurd h (by simp), fun h => by cases h⟩ (by decide) (fun _ => by rfl) ?_ fun Q1 hQ1 ⟨⟨k, b⟩, hk, hall, hno⟩ I1 hI1 => ?_
   ·simp (decide := true) (implicitDefEqProofs := false) (maxSteps := 4000000) only [go_sem]
    first | done | trace_state
   ·simp only at hk hall hno ⊢
    cases b with
    | false =>
     have hne : decide (p = q) = false := decide_eq_false (hno rfl)
     simp (decide := true) (implicitDefEqProofs := false) (maxSteps := 4000000) only [go_sem]
     refine hQ1 _ _ ?_
     simp (decide := true) (implicitDefEqProofs := false) (maxSteps := 4000000) only [go_sem, hne]
     first | done | trace_state
    | true =>
     by_cases hlt : (k : Int) < p.length
     ·obtain ⟨x, hx⟩ : ∃ x, p[k]? = some x := ⟨_, List.getElem?_eq_getElem (by omega)⟩
      obtain ⟨y, hy⟩ : ∃ y, q[k]? = some y := ⟨_, List.getElem?_eq_getElem (by omega)⟩
      obtain ⟨u, hu⟩ : ∃ u, rs[k]? = some u := ⟨_, List.getElem?_eq_getElem (by omega)⟩
      obtain ⟨v, hvv⟩ : ∃ v, rt[k]? = some v := ⟨_, List.getElem?_eq_getElem (by omega)⟩
      have du := tv_at hu
      have dv := tv_at hvv
      have hlt2 : (k : Int) < q.length := by omega
      have hk1 : IntKind.i64.wrap ((k : Int) + 1) = ((k + 1 : Nat) : Int) := by rw [wrap_in (by omega) (by omega)]; omega
      have hsm := rSm_of (p := p) (q := q) (hrs k x u hx hu) (hrt k y v hy hvv) (List.mem_of_getElem? hx)
      simp (decide := true) (implicitDefEqProofs := false) (maxSteps := 4000000) only [go_sem, hlt, hlt2, du, dv, hsm, Nat.mul_one]
      refine hI1 _ ⟨(k + 1, decide (x = y)), by simp only; omega, fun h j hj => ?_, fun h e => ?_⟩ (by simp only; omega) ?_
      ·simp only [decide_eq_true_eq] at h
       by_cases ej : j = k
       ·subst ej; rw [hx, hy, h]
       ·exact hall rfl j (by simp only at hj; omega)
      ·simp only [decide_eq_false_iff_not] at h
       subst e
       rw [hx] at hy
       exact h (Option.some.inj hy)
      ·simp (decide := true) (implicitDefEqProofs := false) (maxSteps := 4000000) only [go_sem, hk1]
       first | done | trace_state
     ·have hle : decide (p = q) = true := by
       rw [decide_eq_true_eq]
       apply List.ext_getElem?
       intro j
       by_cases hj : j < p.length
       ·exact hall rfl j (by omega)
       ·rw [List.getElem?_eq_none (by omega), List.getElem?_eq_none (by omega)]
      simp (decide := true) (implicitDefEqProofs := false) (maxSteps := 4000000) only [go_sem, hlt]
      refine hQ1 _ _ ?_
      simp (decide := true) (implicitDefEqProofs := false) (maxSteps := 4000000) only [go_sem, hle]
      first | done | trace_state
end Go.Proofs.YtdkboibnokipaaaDoor

/- Part Wr. -/
namespace Go.Ow
open Go Go.RowKit Go.Pm
def rowT (r : List ByteArray) : List UInt8 := Lib.join (r.map (·.data.toList)) [32] ++ [10]
def textP (p : List (List ByteArray)) : List UInt8 := (p.map rowT).flatten
theorem textP_snoc {p : List (List ByteArray)} {k : Nat} {r : List ByteArray} (h : p[k]? = some r) : textP (p.take (k + 1)) = textP (p.take k) ++ rowT r := by
 unfold textP; rw [List.take_add_one, h]; simp
theorem join_len : ∀ (l : List (List UInt8)) (m : Nat), (∀ x ∈ l, x.length ≤ m) → (Lib.join l [32]).length ≤ l.length * (m + 1)
 | [], m, _ => by rw [Lib.join_nil]; simp
 | [x], m, h => by
  rw [Lib.join_one]
  have := h x List.mem_cons_self
  simp only [List.length_cons, List.length_nil]; omega
 | x :: y :: l, m, h => by
  have e : Lib.join (x :: y :: l) [32] = x ++ ([32] ++ Lib.join (y :: l) [32]) := by simp [Lib.join, List.intercalate]
  have h1 := h x List.mem_cons_self
  have ih := join_len (y :: l) m fun z hz => h z (List.mem_cons_of_mem _ hz)
  rw [e]
  simp only [List.length_append, List.length_cons, List.length_nil] at *
  have : (l.length + 1 + 1) * (m + 1) = (l.length + 1) * (m + 1) + (m + 1) := Nat.succ_mul _ _
  omega
theorem join_le {r : List ByteArray} (h : ∀ x ∈ r, x.size ≤ 5) (h5 : r.length ≤ 5) : (Lib.join (r.map (·.data.toList)) [32]).length ≤ 40 := by
 have := join_len (r.map (·.data.toList)) 5 (fun x hx => by
  obtain ⟨y, hy, rfl⟩ := List.mem_map.1 hx
  rw [bytes_len]; exact h y hy)
 rw [List.length_map] at this
 omega
theorem rowT_len {r : List ByteArray} (h : ∀ x ∈ r, x.size ≤ 5) (h5 : r.length ≤ 5) : (rowT r).length ≤ 41 := by
 unfold rowT
 have := join_le h h5
 rw [List.length_append]
 simp only [List.length_cons, List.length_nil]; omega
theorem textP_len {p : List (List ByteArray)} (h : validB p = true) : ∀ {k : Nat}, k ≤ p.length → (textP (p.take k)).length ≤ 41 * k
 | 0, _ => by simp [textP]
 | k + 1, hk => by
  obtain ⟨r, hr⟩ : ∃ r, p[k]? = some r := ⟨_, List.getElem?_eq_getElem (by omega)⟩
  have ih := textP_len h (k := k) (by omega)
  have hvr := valid_row h hr
  have := rowT_len (r := r) (fun x hx => (entB_size (hvr.2.2 x hx)).2) hvr.1.2
  rw [textP_snoc hr, List.length_append]; omega
theorem builder_kept {T e : TypeId} {B b : Nat} {bs : List Value} {w w' : World} (h : Lib.IsBuilderF T e B b bs w) (hb : Below w.heap.size w w') : Lib.IsBuilderF T e B b bs w' := by
 have key : ∀ {q : Value}, Lib.BuilderAtF T e B b q bs w → Lib.BuilderAtF T e B b q bs w' := by
  rintro q ⟨hB, v, hbk, hown, hne⟩
  refine ⟨hB, v, ?_, hown.kept (row := none) ⟨hb.os, hb.tape, hb.output, hb.size, fun k hk _ => hb.block k hk⟩ ?_, hne⟩
  ·rw [hb.block b (Array.getElem?_eq_some_iff.1 hbk).1]; exact hbk
  ·cases v.ownBlock with
   | none => exact .inl rfl
   | some x => exact .inr (by simp)
 rcases h with h | h
 ·exact .inl (key h)
 ·exact .inr (key h)
theorem ba_app (l m : List UInt8) : ((ByteArray.mk l.toArray) ++ (ByteArray.mk m.toArray)).data.toList = l ++ m := by
 rw [ByteArray.data_append]; simp
end Go.Ow
namespace Go.Proofs.YtdkboibnokipaaaDoor
open Go.RowKit Go.Pm Go.Ow Go.Shelf
set_option maxRecDepth 1000000
set_option linter.unusedVariables false
set_option maxHeartbeats 2000000
theorem wPrintN_c {s : TV} {p : List (List ByteArray)} (hs : pgR s p) (hv : validB p = false) : PCalls Tryd.prog 22 [s] (.tup [.str ⟨#[]⟩, .int .i64 90]) := by
 refine pcalls_by Tryd.mixes (Spec.one_ok (oneP_ok (wCheckPage_c hs)) noSpec_ok) (fn := Tryd.f22) Tryd.func22 rfl (by kernel_rfl) (by show 1 ≤ _; decide) ?_
 simp (decide := true) (implicitDefEqProofs := false) (maxSteps := 4000000) only [go_sem, Tryd.f22, hv]
theorem Builder_WriteString_x (B b : Nat) (bs : List Value) (s : ByteArray) (w : World) (h : Lib.IsBuilderF 110 5 B b bs w) (hlen : bs.length + s.size ≤ 140737488355328) (hBw : B ≤ w.heap.size) : Calls Tryd.prog 60 #[.pointer (some ⟨b, 0, none⟩), .string s] w fun e w' => e = .returned (.tuple #[.int .i64 s.size, .nilIface]) ∧ (Lib.BuilderAtF 110 5 B b (.pointer (some ⟨b, 0, none⟩)) (bs ++ Lib.strCells s) w' ∧ Below B w w') := Any.Builder_WriteString_f (P := Tryd.prog) (ρ := Tryd.lays156_ren) { Tryd.lays156 with } Tryd.Builder_Extra_156 B b bs s w h hlen hBw
theorem Builder_String_x (B b : Nat) (l : List UInt8) (w : World) (h : Lib.IsBuilderF 110 5 B b (Lib.byteCells l) w) (hBw : B ≤ w.heap.size) : Calls Tryd.prog 62 #[.pointer (some ⟨b, 0, none⟩)] w fun e w' => e = .returned (.string ⟨l.toArray⟩) ∧ (Lib.IsBuilderF 110 5 B b (Lib.byteCells l) w' ∧ Below B w w') := Any.Builder_String_any_f (P := Tryd.prog) (ρ := Tryd.lays156_ren) { Tryd.lays156 with } Tryd.Builder_Extra_156 B b l w h hBw
theorem strings_Join_x (bk o c : Nat) (xs : List ByteArray) (w : World) (hcells : ∀ (j : Nat) x, xs[j]? = some x → w.cell? ⟨bk, o + j, none⟩ = some (.string x)) (hbk : bk < w.heap.size) (hN : xs.length ≤ 140737488355328) (hcap : xs.length ≤ c) (hlen : (Lib.join (xs.map (·.data.toList)) [32]).length ≤ 140737488355328) : Calls Tryd.prog 61 #[.slice (some ⟨bk, o, none⟩) xs.length c, .string ⟨#[32]⟩] w fun e w' => e = .returned (.string ⟨(Lib.join (xs.map (·.data.toList)) [32]).toArray⟩) ∧ Below w.heap.size w w' := Any.strings_Join (P := Tryd.prog) (ρ := Tryd.lays156_ren) Tryd.lays156 Tryd.Builder_Extra_156 bk o c xs ⟨#[32]⟩ w hcells hbk hN hcap hlen
set_option maxHeartbeats 1000000 in
theorem wPrint_c {s : TV} {p : List (List ByteArray)} (hs : pgR s p) (hv : validB p = true) : PCalls Tryd.prog 22 [s] (.tup [.str ⟨(textP p).toArray⟩, .int .i64 0]) := by
 have hC := wCheckPage_c hs
 rw [hv, if_pos rfl] at hC
 obtain ⟨hpl, _⟩ := valid_len hv
 obtain ⟨rs, f, rfl, hrl, hrs⟩ : ∃ rs f, s = .sl rs p.length f ∧ rs.length = p.length ∧ ∀ (k : Nat) (r : List ByteArray) (t : TV), p[k]? = some r → rs[k]? = some t → txR t r := by
  rcases hs with ⟨_, rfl⟩ | h
  ·simp at hpl
  ·exact h
 refine ⟨⟨_, Tryd.func22, rfl, by kernel_rfl⟩, fun w F φ us H hr => ?_⟩
 have hr' : RepL F [.sl rs p.length f] us := ⟨by simpa using hr.1, fun i c' u hc hu => hr.2 i (.t c') u (by rw [List.getElem?_map, hc]; rfl) hu⟩
 obtain ⟨u, rfl, hu⟩ := repl1 hr'
 have cC := hC.2 w F φ [u] H hr
 have hag := H.agree
 have spot : ∀ {a : Addr} {v : Value}, w.cell? a = some v → ∃ b o, a = ⟨b, o, none⟩ := by
  intro a v h
  obtain ⟨b, o, sp⟩ := a
  cases sp with
  | none => exact ⟨b, o, rfl⟩
  | some k =>
   exfalso
   unfold World.cell? at h
   split at h
   ·simp at h
   ·cases h
 obtain ⟨bk, o, cap, rfl, hrow⟩ : ∃ bk o cap, u = .slice (some ⟨bk, o, none⟩) p.length cap ∧ ∀ (k : Nat) (r : List ByteArray), p[k]? = some r → ∃ bk' o' cap', w.cell? ⟨bk, o + k, none⟩ = some (.slice (some ⟨bk', o', none⟩) r.length cap') ∧ bk' < w.heap.size ∧ r.length ≤ cap' ∧ ∀ (j : Nat) x, r[j]? = some x → w.cell? ⟨bk', o' + j, none⟩ = some (.string x) := by
  clear cC hr hr'
  cases hu with
  | sl cs n full a cap vs hl hF hrr h1' h2 h3 =>
   have hcell : ∀ (k : Nat) v, vs[k]? = some v → w.cell? (a.add k) = some v := fun k v hv => look_cell (hag _ _ (hF k v hv).1) (hF k v hv).2
   obtain ⟨v0, hv0⟩ : ∃ v, vs[0]? = some v := ⟨_, List.getElem?_eq_getElem (by omega)⟩
   have hc0 := hcell 0 v0 hv0
   rw [add_zero] at hc0
   obtain ⟨bk, o, rfl⟩ := spot hc0
   refine ⟨bk, o, cap, rfl, fun k r hk => ?_⟩
   have hkl := (List.getElem?_eq_some_iff.1 hk).1
   obtain ⟨t, ht⟩ : ∃ t, rs[k]? = some t := ⟨_, List.getElem?_eq_getElem (by omega)⟩
   obtain ⟨v, hv⟩ : ∃ v, vs[k]? = some v := ⟨_, List.getElem?_eq_getElem (by omega)⟩
   have hc := hcell k v hv
   rw [add_plain] at hc
   have hvr := valid_row ‹_› hk
   have hx := hrs k r t hk ht
   obtain ⟨g, rfl⟩ : ∃ g, t = .sl (r.map .str) r.length g := by
    rcases hx with ⟨_, rfl⟩ | ⟨g, e⟩
    ·have := hvr.1.1; simp at this
    ·exact ⟨g, e⟩
   have hrt := hrr k _ v ht hv
   cases hrt with
   | sl cs' n' full' a' cap' vs' hl' hF' hrr' h1'' h2' h3' =>
    have hcell' : ∀ (j : Nat) x, r[j]? = some x → w.cell? (a'.add j) = some (.string x) := by
     intro j x hx
     have hj : j < vs'.length := by rw [hl', List.length_map]; exact (List.getElem?_eq_some_iff.1 hx).1
     have hu := List.getElem?_eq_getElem hj
     have hc := hrr' j (.str x) vs'[j] (by rw [List.getElem?_map, hx]; rfl) hu
     have := look_cell (hag _ _ (hF' j _ hu).1) (hF' j _ hu).2
     rw [str_inv hc] at this
     exact this
    obtain ⟨x0, hx0⟩ : ∃ x, r[0]? = some x := ⟨_, List.getElem?_eq_getElem (by have := hvr.1.1; omega)⟩
    have hc0 := hcell' 0 x0 hx0
    rw [add_zero] at hc0
    obtain ⟨bk', o', rfl⟩ := spot hc0
    exact ⟨bk', o', cap', hc, World.block_lt_of_cell? _ _ hc0, h1'', fun j x hx => by have := hcell' j x hx; rwa [add_plain] at this⟩
 go_enter Tryd.func22, Tryd.ntmps22
 go_wp2_with (go_at_call 17; refine cC.mono ?_)
 rintro e w1 ⟨u1, F1, φ1, rfl, H1, hu1⟩
 have hu1 : u1 = .int .i64 0 := by cases hu1; rfl
 subst hu1
 go_wp2
 go_loopw [15] (fun iv wr => ∃ k : Nat, iv = .int .i64 k ∧ k ≤ p.length ∧ Lib.IsBuilderF 110 5 w1.heap.size w1.heap.size (Lib.byteCells (textP (p.take k))) wr ∧ Below w1.heap.size w1 wr) (fun iv _ => p.length - (Lib.intOf iv).toNat)
 case atStart =>
  refine ⟨0, rfl, Nat.zero_le _, ?_, (Below.refl _ w1).alloc (Nat.le_refl _) _⟩
  have := Lib.fresh_isBuilder 110 5 w1
  exact Lib.IsBuilderF.of this
 case round =>
  obtain ⟨k, rfl, hk, hI, hbw⟩ := hrel
  have hb1 : Below w.heap.size w w1 := ⟨H1.bel.os, H1.bel.tape, H1.bel.output, H1.bel.size, fun j hj => H1.bel.block j hj (fun ho => by obtain ⟨id, hl, _⟩ := ho; cases hl)⟩
  have hcell : ∀ {a : Addr} {v : Value}, a.block < w.heap.size → w.cell? a = some v → wr.cell? a = some v := by
   intro a v hl h
   have e1 : wr.heap[a.block]? = w.heap[a.block]? := by rw [hbw.block _ (Nat.lt_of_lt_of_le hl hb1.size), hb1.block _ hl]
   unfold World.cell? at h ⊢
   rw [e1]; exact h
  by_cases hlt : (k : Int) < p.length
  ·obtain ⟨r, hr0⟩ : ∃ r, p[k]? = some r := ⟨_, List.getElem?_eq_getElem (by omega)⟩
   obtain ⟨bk', o', cap', c1, c2, c3, c4⟩ := hrow k r hr0
   have cr := hcell (World.block_lt_of_cell? _ _ c1) c1
   have hw2 : w1.heap.size ≤ wr.heap.size := hbw.size
   have hb2 := hb1.size
   have hvr := valid_row hv hr0
   have hsz : ∀ x ∈ r, x.size ≤ 5 := fun x hx => (entB_size (hvr.2.2 x hx)).2
   have hjl : (Lib.join (r.map (·.data.toList)) [32]).length ≤ 40 := join_le hsz hvr.1.2
   have cJ := strings_Join_x bk' o' cap' r wr (fun j x hx => hcell c2 (c4 j x hx)) (by omega) (by omega) c3 (by omega)
   clear hvr hsz hjl
   go_wp2_with (go_at_call 61; refine cJ.mono ?_)
   rintro e w2 ⟨rfl, hbj⟩
   have hrow5 : textP (p.take (k + 1)) = textP (p.take k) ++ rowT r := textP_snoc hr0
   have hjl : (Lib.join (r.map (·.data.toList)) [32]).length ≤ 40 := by
    have hvr := valid_row hv hr0
    exact join_le (fun x hx => (entB_size (hvr.2.2 x hx)).2) hvr.1.2
   have hbj' : Below wr.heap.size wr w2 := hbj
   have hI2 : Lib.IsBuilderF 110 5 w1.heap.size w1.heap.size (Lib.byteCells (textP (p.take k))) w2 := builder_kept hI hbj'
   have hsz2 : w1.heap.size ≤ w2.heap.size := Nat.le_trans hw2 hbj'.size
   have htk := textP_len hv hk
   have happ := ba_app (Lib.join (r.map (·.data.toList)) [32]) [10]
   have hszz : ((ByteArray.mk (Lib.join (r.map (·.data.toList)) [32]).toArray) ++ (ByteArray.mk #[10])).size ≤ 41 := by
    rw [← bytes_len]
    have : ((ByteArray.mk (Lib.join (r.map (·.data.toList)) [32]).toArray) ++ (ByteArray.mk #[10])).data.toList = Lib.join (r.map (·.data.toList)) [32] ++ [10] := happ
    rw [this, List.length_append]
    simp only [List.length_cons, List.length_nil]; omega
   have cW := Builder_WriteString_x w1.heap.size w1.heap.size _ ((ByteArray.mk (Lib.join (r.map (·.data.toList)) [32]).toArray) ++ (ByteArray.mk #[10])) w2 hI2 (by rw [Lib.byteCells_length]; omega) hsz2
   go_wp2_with (go_at_call 60; refine cW.mono ?_)
   rintro e w3 ⟨rfl, h1, hbs⟩
   go_wp2
   go_roundw
   case rel =>
    refine ⟨k + 1, ?_, by omega, ?_, ?_⟩
    ·rfl
    ·rw [hrow5, Lib.byteCells_append]
     have : Lib.byteCells (rowT r) = Lib.strCells ((ByteArray.mk (Lib.join (r.map (·.data.toList)) [32]).toArray) ++ (ByteArray.mk #[10])) := by
      rw [Lib.strCells_eq]; exact congrArg Lib.byteCells happ.symm
     rw [this]
     exact .inr h1
    ·exact hbw.trans ((hbj'.mono hw2).trans hbs)
   case measure =>
    simp only [Lib.intOf]
    omega
  ·have hke : k = p.length := by omega
   subst hke
   have cS := Builder_String_x w1.heap.size w1.heap.size _ wr hI hbw.size
   go_wp2_with (go_at_call 62; refine cS.mono ?_)
   intro e w2 he h1 hbs
   subst he
   go_wp2
   go_ret2
   have hb3 : Below w1.heap.size w1 w2 := hbw.trans hbs
   refine ⟨_, F1, φ1, rfl, H1.grow (Fz.le_refl _) (fun a v hv => ?_) (fun a v g1 g2 => by rw [g1] at g2; cases g2) hb3, ?_⟩
   ·have := H1.agree a v hv
    rw [look_same (hb3.block _ (cell_lt this))]; exact this
   ·rw [List.take_length] at *
    refine .tup [_, _] [.string ⟨(textP p).toArray⟩, .int .i64 0] rfl fun i c u hc hu => ?_
    match i with
    | 0 => cases hc; cases hu; exact .str _
    | 1 => cases hc; cases hu; exact .int _ _
    | (i + 2) => cases hc
end Go.Proofs.YtdkboibnokipaaaDoor

/- Part W6. -/
namespace Go.Ow
open Go Go.RowKit Go.Pm
def wetP : List (List ByteArray) := [[⟨#[49, 50]⟩, ⟨#[63, 53]⟩, ⟨#[52, 55]⟩], [⟨#[56]⟩, ⟨#[50, 48]⟩, ⟨#[50, 63]⟩], [⟨#[50, 63]⟩, ⟨#[53, 53]⟩, ⟨#[55, 53]⟩]]
def openP : List (List ByteArray) := [[⟨#[49, 63]⟩, ⟨#[52]⟩, ⟨#[49, 63]⟩], [⟨#[50]⟩, ⟨#[51]⟩, ⟨#[53]⟩], [⟨#[49, 63]⟩, ⟨#[55]⟩, ⟨#[50, 63]⟩]]
def dryP : List (List ByteArray) := [[⟨#[49, 50]⟩, ⟨#[51, 53]⟩, ⟨#[52, 55]⟩], [⟨#[56]⟩, ⟨#[50, 48]⟩, ⟨#[50, 56]⟩], [⟨#[50, 48]⟩, ⟨#[53, 53]⟩, ⟨#[55, 53]⟩]]
def wetS : ByteArray := ⟨#[49, 50, 32, 63, 53, 32, 52, 55, 10, 56, 32, 50, 48, 32, 50, 63, 10, 50, 63, 32, 53, 53, 32, 55, 53, 10]⟩
def litT (p : List (List ByteArray)) : TV := .sl (p.map fun r => .sl (r.map .str) r.length true) p.length true
theorem litT_R (p : List (List ByteArray)) : pgR (litT p) p := .inr ⟨_, true, rfl, List.length_map _, fun k r t hr ht => by
 rw [List.getElem?_map, hr] at ht
 cases ht
 exact .inr ⟨true, rfl⟩⟩
theorem wet_valid : validB wetP = true := by decide
theorem open_valid : validB openP = true := by decide
theorem wet_read : readG wetP = [[3, 8, 0]] := by decide +kernel
theorem open_read : readG openP = [[1, 5, 3, 0], [2, 6, 4, 1], [3, 7, 5, 2], [4, 8, 6, 3], [5, 9, 7, 4]] := by decide +kernel
theorem lit_ne {p q : List (List ByteArray)} (h : p ≠ q) : litT p ≠ litT q := fun e => h (pgR_inj (e ▸ litT_R p) (litT_R q))
def bookL : List WRec := [⟨1, 10, 101, ⟨#[98, 105, 114, 100]⟩, 0⟩, ⟨1, 20, 102, ⟨#[115, 105, 115, 115, 111, 110]⟩, 0⟩, ⟨2, 300, 101, ⟨#[114, 97, 109, 115, 100, 101, 110]⟩, 0⟩, ⟨3, 400, 101, ⟨#[]⟩, 205⟩, ⟨2, 500, 205, ⟨#[100, 111, 108, 108, 111, 110, 100]⟩, 0⟩, ⟨4, 600, 102, ⟨#[]⟩, 0⟩]
def bookT : TV := .sl (recL bookL) 6 true
def marksC : TV := .sl [.str ⟨#[114, 97, 109, 115, 100, 101, 110]⟩, .str ⟨#[100, 111, 108, 108, 111, 110, 100]⟩] 2 true
def claimC : WCl := ⟨205, 550, ⟨#[98, 105, 114, 100]⟩, 10, [⟨#[114, 97, 109, 115, 100, 101, 110]⟩, ⟨#[100, 111, 108, 108, 111, 110, 100]⟩]⟩
def lateC : WCl := ⟨205, 450, ⟨#[98, 105, 114, 100]⟩, 10, [⟨#[114, 97, 109, 115, 100, 101, 110]⟩, ⟨#[100, 111, 108, 108, 111, 110, 100]⟩]⟩
theorem marksC_R : txR marksC [⟨#[114, 97, 109, 115, 100, 101, 110]⟩, ⟨#[100, 111, 108, 108, 111, 110, 100]⟩] := .inr ⟨true, rfl⟩
end Go.Ow
namespace Go.Proofs.YtdkboibnokipaaaDoor
open Go.RowKit Go.Pm Go.Ow
set_option maxRecDepth 100000
set_option linter.unusedVariables false
set_option maxHeartbeats 8000000
theorem wet_rest : restT wetP = .tup [pgV dryP, .int .i64 1, .int .i64 0] := by
 have h : restP wetP = dryP := by decide +kernel
 unfold restT
 rw [wet_read, if_neg (by simp), h]; rfl
theorem open_rest : restT openP = .tup [pgV openP, .int .i64 5, .int .i64 0] := by
 have h : restP openP = openP := by decide +kernel
 unfold restT
 rw [open_read, if_neg (by simp), h]; rfl
theorem open_ask : askT openP = .tup [.agg [.int .i64 0, .int .i64 0, .int .i64 1], .int .i64 1, .int .i64 0] := by
 have h : askTo (readG openP) (placesP openP) (placesP openP).length = ((0, 0, 1), 1) := by decide +kernel
 unfold askT
 rw [h, open_read]; rfl
theorem wet_text : (⟨(textP wetP).toArray⟩ : ByteArray) = wetS := by decide +kernel
theorem wet_suf : Lib.hasSuffix wetS.data.toList [10] = true := by decide +kernel
theorem wet_lines : linesP wetS = wetP := by decide +kernel
theorem oWet_c : PCalls Tryd.prog 44 [] (litT wetP) := by
 refine pcalls_by Tryd.mixes noSpec_ok (fn := Tryd.f44) Tryd.func44 rfl (by kernel_rfl) (by show 0 ≤ _; decide) ?_
 simp (decide := true) (implicitDefEqProofs := false) (maxSteps := 4000000) only [go_sem, Tryd.f44, litT, wetP, List.map_cons, List.map_nil, List.length_cons, List.length_nil]
theorem oOpen_c : PCalls Tryd.prog 59 [] (litT openP) := by
 refine pcalls_by Tryd.mixes noSpec_ok (fn := Tryd.f59) Tryd.func59 rfl (by kernel_rfl) (by show 0 ≤ _; decide) ?_
 simp (decide := true) (implicitDefEqProofs := false) (maxSteps := 4000000) only [go_sem, Tryd.f59, litT, openP, List.map_cons, List.map_nil, List.length_cons, List.length_nil]
theorem oBook_c : PCalls Tryd.prog 45 [] bookT := by
 refine pcalls_by Tryd.mixes noSpec_ok (fn := Tryd.f45) Tryd.func45 rfl (by kernel_rfl) (by show 0 ≤ _; decide) ?_
 simp (decide := true) (implicitDefEqProofs := false) (maxSteps := 4000000) only [go_sem, Tryd.f45, bookT, bookL, recL, recT, List.flatMap_cons, List.flatMap_nil]
 first | done | trace_state
theorem oClaim_c : PCalls Tryd.prog 46 [] (clT claimC marksC) := by
 refine pcalls_by Tryd.mixes noSpec_ok (fn := Tryd.f46) Tryd.func46 rfl (by kernel_rfl) (by show 0 ≤ _; decide) ?_
 simp (decide := true) (implicitDefEqProofs := false) (maxSteps := 4000000) only [go_sem, Tryd.f46, clT, claimC, marksC]
 first | done | trace_state
theorem bookT_R : bkT bookT bookL := .inr ⟨true, rfl⟩
theorem t_205 : traceP bookL 205 450 = (0, 0) := by decide +kernel
theorem t_101 : traceP bookL 101 450 = (0, 4) := by decide +kernel
theorem j_claim : judgeP bookL claimC = ((0, 0), 0) := by decide +kernel
theorem j_late : judgeP bookL lateC = ((4, 1), 0) := by decide +kernel
theorem or_ok {P : Program} {f : FuncId} {g h : List TV → Option TV} (hg : ∀ a r, g a = some r → PCalls P f a r) (hh : ∀ a r, h a = some r → PCalls P f a r) : ∀ a r, firstO (g a) (h a) = some r → PCalls P f a r := by
 intro a r e
 unfold firstO at e
 split at e
 ·rename_i x hx; cases e; exact hg _ _ hx
 ·exact hh _ _ e
def dryL : TV := .sl [.sl [.str ⟨#[49, 50]⟩, .str ⟨#[51, 53]⟩, .str ⟨#[52, 55]⟩] 3 true, .sl [.str ⟨#[56]⟩, .str ⟨#[50, 48]⟩, .str ⟨#[50, 56]⟩] 3 true, .sl [.str ⟨#[50, 48]⟩, .str ⟨#[53, 53]⟩, .str ⟨#[55, 53]⟩] 3 true] 3 true
theorem dryL_R : pgR dryL dryP := litT_R dryP
theorem pgV_ne {p q : List (List ByteArray)} (h : p ≠ q) : pgV p ≠ pgV q := fun e => h (pgR_inj (e ▸ pgV_R p) (pgV_R q))
noncomputable def spWo1 : Pm.Spec := (((((((((noSpec.one 44 (oneP [] (litT wetP))).one 59 (oneP [] (litT openP))).one 45 (oneP [] bookT)).one 46 (oneP [] (clT claimC marksC))).one 14 (fun a => firstO (oneP [litT wetP] (.tup [pgV dryP, .int .i64 1, .int .i64 0]) a) (oneP [litT openP] (.tup [pgV openP, .int .i64 5, .int .i64 0]) a))).one 19 (oneP [litT openP] (.tup [.agg [.int .i64 0, .int .i64 0, .int .i64 1], .int .i64 1, .int .i64 0]))).one 22 (oneP [litT wetP] (.tup [.str wetS, .int .i64 0]))).one 24 (oneP [.str wetS] (.tup [pgV wetP, .int .i64 0]))).one 26 (fun a => firstO (oneP [bookT, .int .i64 205, .int .i64 450] (.tup [.int .i64 0, .int .i64 0]) a) (oneP [bookT, .int .i64 101, .int .i64 450] (.tup [.int .i64 0, .int .i64 4]) a)))
noncomputable def spWo : Pm.Spec := ((spWo1.one 30 (fun a => firstO (oneP [bookT, clT claimC marksC] (.tup [.agg [.int .i64 0, .int .i64 0], .int .i64 0]) a) (oneP [bookT, clT lateC marksC] (.tup [.agg [.int .i64 4, .int .i64 1], .int .i64 0]) a))).one 16 (fun a => firstO (oneP [pgV dryP, dryL] (.bool true) a) (firstO (oneP [pgV openP, litT openP] (.bool true) a) (oneP [pgV wetP, litT wetP] (.bool true) a)))).gdt
theorem same_c {s t : TV} {p : List (List ByteArray)} (h1 : pgR s p) (h2 : pgR t p) (hb : p.length ≤ 5) (hb2 : ∀ l ∈ p, l.length ≤ 5) : PCalls Tryd.prog 16 [s, t] (.bool true) := by
 have := rSamePages_c h1 h2 (by omega) fun l hl => by have := hb2 l hl; omega
 rw [decide_eq_true rfl] at this
 exact this
theorem restore_of {s R : TV} {p : List (List ByteArray)} (hs : pgR s p) (hv : validB p = true) (h : restT p = R) : PCalls Tryd.prog 14 [s] R := h ▸ wRestore_c hs hv
theorem open_places : placesP openP = [(0, 0, 1), (0, 2, 1), (2, 0, 1), (2, 2, 1)] := by decide +kernel
theorem ask_open : PCalls Tryd.prog 19 [litT openP] (.tup [.agg [.int .i64 0, .int .i64 0, .int .i64 1], .int .i64 1, .int .i64 0]) := by
 have := wAsk4_c (litT_R openP) open_valid open_places (by decide) (by decide) (by decide) (by decide) (by decide) (by decide)
 rw [open_ask] at this
 exact this
theorem print_of {s : TV} {t : ByteArray} {p : List (List ByteArray)} (hs : pgR s p) (hv : validB p = true) (h : (⟨(textP p).toArray⟩ : ByteArray) = t) : PCalls Tryd.prog 22 [s] (.tup [.str t, .int .i64 0]) := h ▸ wPrint_c hs hv
theorem parse_of {s : ByteArray} {p : List (List ByteArray)} (h1 : s.size ≤ 65536) (h2 : Lib.hasSuffix s.data.toList [10] = true) (h : linesP s = p) (h3 : p.length ≤ 5 ∧ validB p = true) : PCalls Tryd.prog 24 [.str s] (.tup [pgV p, .int .i64 0]) := by
 have := wParse_c s h1 h2
 rw [h, if_pos h3] at this
 exact this
theorem trace_of {s : TV} {l : List WRec} (hs : bkT s l) (hL : l.length ≤ 40) {n d a b : Int} (h : traceP l n d = (a, b)) : PCalls Tryd.prog 26 [s, .int .i64 n, .int .i64 d] (.tup [.int .i64 a, .int .i64 b]) := by
 have := wTrace_c hs (by omega) n d
 rw [h] at this
 exact this
theorem judge_of {s m : TV} {l : List WRec} {c : WCl} (hs : bkT s l) (hL : l.length ≤ 40) (hm : txR m c.marks) (hM : c.marks.length ≤ 40) {a b e : Int} (h : judgeP l c = ((a, b), e)) : PCalls Tryd.prog 30 [s, clT c m] (.tup [.agg [.int .i64 a, .int .i64 b], .int .i64 e]) := by
 have := wJudge_c hs (by omega) hm (by omega)
 rw [h] at this
 exact this
theorem spWo_ok : SpecOk Tryd.prog spWo := by
 unfold spWo spWo1
 refine Spec.gdt_ok (Spec.one_ok (or_ok (oneP_ok ?_) (or_ok (oneP_ok ?_) (oneP_ok ?_))) (Spec.one_ok (or_ok (oneP_ok ?_) (oneP_ok ?_)) (Spec.one_ok (or_ok (oneP_ok ?_) (oneP_ok ?_)) (Spec.one_ok (oneP_ok ?_) (Spec.one_ok (oneP_ok ?_) (Spec.one_ok (oneP_ok ?_) (Spec.one_ok (or_ok (oneP_ok ?_) (oneP_ok ?_)) (Spec.one_ok (oneP_ok oClaim_c) (Spec.one_ok (oneP_ok oBook_c) (Spec.one_ok (oneP_ok oOpen_c) (Spec.one_ok (oneP_ok oWet_c) noSpec_ok)))))))))))
 ·exact same_c (pgV_R dryP) dryL_R (by decide) (by decide)
 ·exact same_c (pgV_R openP) (litT_R openP) (by decide) (by decide)
 ·exact same_c (pgV_R wetP) (litT_R wetP) (by decide) (by decide)
 ·exact judge_of bookT_R (by decide) marksC_R (by decide) j_claim
 ·exact judge_of bookT_R (by decide) marksC_R (by decide) j_late
 ·exact trace_of bookT_R (by decide) t_205
 ·exact trace_of bookT_R (by decide) t_101
 ·exact parse_of (by decide) wet_suf wet_lines (by decide)
 ·exact print_of (litT_R wetP) wet_valid wet_text
 ·exact ask_open
 ·exact restore_of (litT_R wetP) wet_valid wet_rest
 ·exact restore_of (litT_R openP) open_valid open_rest
theorem oWorks_c : PCalls Tryd.prog 21 [] (.bool true) := by
 have n1 : ¬ litT openP = litT wetP := lit_ne (by decide)
 have n2 : ¬ pgV openP = pgV dryP := pgV_ne (by decide)
 have n3 : ¬ pgV wetP = pgV dryP := pgV_ne (by decide)
 have n4 : ¬ pgV wetP = pgV openP := pgV_ne (by decide)
 have e1 : clT claimC marksC = .agg [.int .i64 205, .int .i64 550, .str ⟨#[98, 105, 114, 100]⟩, .int .i64 10, marksC] := rfl
 have e2 : clT lateC marksC = .agg [.int .i64 205, .int .i64 450, .str ⟨#[98, 105, 114, 100]⟩, .int .i64 10, marksC] := rfl
 have hw : (wetS.toList == (⟨#[49, 50, 32, 63, 53, 32, 52, 55, 10, 56, 32, 50, 48, 32, 50, 63, 10, 50, 63, 32, 53, 53, 32, 55, 53, 10]⟩ : ByteArray).toList) = true := (beqS _ _).trans (decide_eq_true rfl)
 refine pcalls_by Tryd.mixes spWo_ok (fn := Tryd.f21) Tryd.func21 rfl (by kernel_rfl) (by show 0 ≤ _; decide) ?_
 simp (decide := true) (implicitDefEqProofs := false) (maxSteps := 4000000) only [go_sem, Tryd.f21, spWo, spWo1, n1, n2, n3, n4, e1, e2, dryL, hw]
 first | done | trace_state
end Go.Proofs.YtdkboibnokipaaaDoor

/- Part W7. -/
namespace Go.Ow
open Go Go.RowKit Go.Pm
def asgD : List Pl → List Int → Dg
 | a :: L, d :: g => updD (asgD L g) a d
 | _, _ => fun _ => none
def ovr (D : Dg) (M : List Pl) (g : List Int) : Dg := fun b => match asgD M g b with
 | some d => some d
 | none => D b
end Go.Ow

/- Part W8. -/
namespace Go.Ow
open Go Go.RowKit Go.Pm
abbrev Pg := List (List ByteArray)
def inP (p : Pg) (a : Pl) : Prop := a.1 < p.length ∧ a.2.1 < (rowA p a.1).length ∧ a.2.2 < (entA (rowA p a.1) a.2.1).size
def byA (p : Pg) (a : Pl) : UInt8 := (entA (rowA p a.1) a.2.1).data.toList.getD a.2.2 0
def preB (p : Pg) : Bool := inW p.length 2 5 && p.all (rowOk (wideP p))
theorem valid_pre (p : Pg) : validB p = (preB p && decide (lostP p ≤ 5)) := by unfold validB preB; rw [Bool.and_assoc]
def shpOk (p : Pg) : Prop := (2 ≤ p.length ∧ p.length ≤ 5) ∧ (∀ i, i < p.length → (2 ≤ (rowA p i).length ∧ (rowA p i).length ≤ 5) ∧ (rowA p i).length = wideP p) ∧ ∀ i k, i < p.length → k < (rowA p i).length → 1 ≤ (entA (rowA p i) k).size ∧ (entA (rowA p i) k).size ≤ 5
theorem pre_iff {p : Pg} : preB p = true ↔ shpOk p ∧ ∀ a, inP p a → entC (byA p a).toNat = true ∧ (firstB p a = true → byA p a ≠ 48) := by
 unfold preB shpOk
 rw [Bool.and_eq_true, inW_if, List.all_eq_true]
 have hrow : ∀ i (h : i < p.length), rowA p i = p[i] := fun i h => by unfold rowA; rw [List.getD_eq_getElem?_getD, List.getElem?_eq_getElem h]; rfl
 have hent : ∀ (r : List ByteArray) k (h : k < r.length), entA r k = r[k] := fun r k h => by unfold entA; rw [List.getD_eq_getElem?_getD, List.getElem?_eq_getElem h]; rfl
 have hsz : ∀ s : ByteArray, entB s = true ↔ (1 ≤ s.size ∧ s.size ≤ 5) ∧ ∀ x, x < s.size → entC (s.data.toList.getD x 0).toNat = true ∧ (x = 0 → 1 < s.size → s.data.toList.getD x 0 ≠ 48) := fun s => by
  constructor
  ·intro h
   refine ⟨entB_size h, fun x hx => ⟨entB_C h hx, fun h0 h1 => ?_⟩⟩
   subst h0
   unfold entB at h
   simp only [Bool.and_eq_true, Bool.not_eq_true', Bool.and_eq_false_imp, decide_eq_true_eq] at h
   have := h.2.1 (by omega)
   intro e
   rw [e] at this
   cases this
  ·rintro ⟨h1, h2⟩
   unfold entB
   simp only [Bool.and_eq_true, Bool.not_eq_true', Bool.and_eq_false_imp, decide_eq_true_eq, inW_if, List.all_eq_true]
   refine ⟨by omega, fun h => ?_, fun b hb => ?_⟩
   ·have := (h2 0 (by omega)).2 rfl (by omega)
    cases hc : (((s.data.toList.getD 0 0).toNat : Int) == 48) with
    | false => rfl
    | true =>
     rw [beq_iff_eq] at hc
     have hc2 : (s.data.toList.getD 0 0).toNat = 48 := by omega
     exact absurd (UInt8.toNat_inj.1 (by rw [hc2]; rfl)) this
   ·obtain ⟨x, hx, rfl⟩ := List.getElem_of_mem hb
    rw [bytes_len] at hx
    have := (h2 x hx).1
    rw [List.getD_eq_getElem?_getD, List.getElem?_eq_getElem] at this
    exact this
 constructor
 ·rintro ⟨h1, h2⟩
  have h2' : ∀ i (h : i < p.length), _ := fun i h => h2 p[i] (List.getElem_mem h)
  unfold rowOk at h2'
  simp only [Bool.and_eq_true, inW_if, beq_iff_eq, List.all_eq_true] at h2'
  refine ⟨⟨by omega, fun i hi => ?_, fun i k hi hk => ?_⟩, fun a ha => ?_⟩
  ·have := h2' i hi
   rw [hrow i hi]
   exact ⟨by omega, this.2.1⟩
  ·have := (h2' i hi).2.2
   rw [hrow i hi] at hk ⊢
   rw [hent _ k hk]
   exact ((hsz _).1 (this _ (List.getElem_mem hk))).1
  ·obtain ⟨i, k, x⟩ := a
   obtain ⟨hi, hk, hx⟩ := ha
   simp only at hi hk hx
   have := (h2' i hi).2.2
   unfold byA firstB
   simp only
   rw [hrow i hi] at hk hx ⊢
   rw [hent _ k hk] at hx ⊢
   have := ((hsz _).1 (this _ (List.getElem_mem hk))).2 x hx
   refine ⟨this.1, fun hf => ?_⟩
   simp only [Bool.and_eq_true, beq_iff_eq, decide_eq_true_eq] at hf
   exact this.2 hf.1 hf.2
 ·rintro ⟨⟨h1, h2, h3⟩, h4⟩
  refine ⟨by omega, fun r hr => ?_⟩
  obtain ⟨i, hi, rfl⟩ := List.getElem_of_mem hr
  have q1 := h2 i hi
  have q2 := h3 i
  have q3 := fun k x => h4 (i, k, x)
  unfold inP byA firstB at q3
  simp only at q3
  rw [hrow i hi] at q1
  unfold rowOk
  simp only [Bool.and_eq_true, inW_if, beq_iff_eq, List.all_eq_true]
  refine ⟨by omega, q1.2, fun s hs => ?_⟩
  obtain ⟨k, hk, rfl⟩ := List.getElem_of_mem hs
  have q2 := q2 k hi (by rw [hrow i hi]; exact hk)
  rw [hrow i hi, hent _ k hk] at q2
  rw [hsz]
  refine ⟨q2, fun x hx => ?_⟩
  have := q3 k x ⟨hi, by rw [hrow i hi]; exact hk, by rw [hrow i hi, hent _ k hk]; exact hx⟩
  rw [hrow i hi, hent _ k hk] at this
  refine ⟨this.1, fun h0 h1' => this.2 ?_⟩
  rw [h0]
  simpa using h1'
theorem valid_iff {p : Pg} : validB p = true ↔ shpOk p ∧ (∀ a, inP p a → entC (byA p a).toNat = true ∧ (firstB p a = true → byA p a ≠ 48)) ∧ (placesP p).length ≤ 5 := by
 rw [valid_pre, Bool.and_eq_true, pre_iff, decide_eq_true_eq, places_len, and_assoc]
end Go.Ow

/- Part Wsp. -/
namespace Go.Proofs.YtdkboibnokipaaaDoor
open Go Go.RowKit Go.Pm Go.Ow
def cutL (c : UInt8) : List UInt8 → List (List UInt8)
 | [] => [[]]
 | b :: l => if b = c then [] :: cutL c l else match cutL c l with
  | [] => [[b]]
  | x :: r => (b :: x) :: r
theorem cutL_ne (c : UInt8) (l : List UInt8) : cutL c l ≠ [] := by
 cases l with
 | nil => simp [cutL]
 | cons b l =>
  unfold cutL
  split
  ·simp
  ·split <;> simp
theorem splitK_cut (c : UInt8) : ∀ l : List UInt8, Lib.splitK [c] 0 (Lib.count l [c]) l = cutL c l
 | [] => by rw [Lib.count_miss (by simp [Lib.index])]; rfl
 | b :: l => by
  have ih := splitK_cut c l
  by_cases h : b = c
  ·subst h
   have hix : Lib.index (b :: l) [b] = ((0 : Nat) : Int) := by rw [Lib.index]; simp [List.isPrefixOf]
   rw [Lib.count_cons_eq, Nat.add_comm]
   unfold Lib.splitK cutL
   rw [hix, if_pos rfl, if_neg (by decide), ← ih]
   rfl
  ·rw [Lib.count_cons_ne b c l h]
   have hp : ([c] : List UInt8).isPrefixOf (b :: l) = false := by simp [List.isPrefixOf, Ne.symm h]
   have hix : Lib.index (b :: l) [c] = if Lib.index l [c] == -1 then -1 else Lib.index l [c] + 1 := by rw [Lib.index, hp]; simp
   have hcut : cutL c (b :: l) = match cutL c l with
    | [] => [[b]]
    | x :: r => (b :: x) :: r := by rw [cutL, if_neg h]
   rw [hcut, ← ih]
   cases hk : Lib.count l [c] with
   | zero => rfl
   | succ k =>
    by_cases hm : Lib.index l [c] = -1
    ·rw [Lib.count_miss hm] at hk; cases hk
    ·have hge := Lib.index_ge l [c]
     obtain ⟨j, hj⟩ : ∃ j : Nat, Lib.index l [c] = j := ⟨(Lib.index l [c]).toNat, by omega⟩
     have hix' : Lib.index (b :: l) [c] = ((j + 1 : Nat) : Int) := by rw [hix, if_neg (fun e => hm (beq_iff_eq.1 e)), hj]; omega
     have q1 : ¬ ((((j + 1 : Nat) : Int) == -1) = true) := fun e => by have := beq_iff_eq.1 e; omega
     have q2 : ¬ (((j : Int) == -1) = true) := fun e => by have := beq_iff_eq.1 e; omega
     rw [Lib.splitK, Lib.splitK, hix', hj, if_neg q1, if_neg q2]
     simp
theorem pcs_cut (s : ByteArray) (c : UInt8) : (pcs s c).map (·.data.toList) = cutL c s.data.toList := by
 unfold pcs
 rw [Lib.splitB_data]
 exact splitK_cut c _
theorem join_two (x : List UInt8) (c : UInt8) {L : List (List UInt8)} (h : L ≠ []) : Lib.join (x :: L) [c] = x ++ c :: Lib.join L [c] := by
 cases L with
 | nil => exact absurd rfl h
 | cons y L => simp [Lib.join, List.intercalate]
theorem join_push (b : UInt8) (x : List UInt8) (L : List (List UInt8)) (c : UInt8) : Lib.join ((b :: x) :: L) [c] = b :: Lib.join (x :: L) [c] := by
 rw [Lib.join_cons, Lib.join_cons]; rfl
theorem join_cut (c : UInt8) : ∀ l : List UInt8, Lib.join (cutL c l) [c] = l
 | [] => Lib.join_one _ _
 | b :: l => by
  have ih := join_cut c l
  have hn := cutL_ne c l
  unfold cutL
  split
  ·rename_i h
   rw [join_two _ _ hn, ih, h]; rfl
  ·cases hc : cutL c l with
   | nil => exact absurd hc hn
   | cons x r =>
    show Lib.join ((b :: x) :: r) [c] = _
    rw [join_push, ← hc, ih]
theorem cut_none {c : UInt8} : ∀ {x : List UInt8}, c ∉ x → cutL c x = [x]
 | [], _ => rfl
 | b :: x, h => by
  have hb : ¬ b = c := fun e => h (e ▸ List.mem_cons_self)
  have ih := cut_none (c := c) (x := x) fun hm => h (List.mem_cons_of_mem _ hm)
  rw [cutL, if_neg hb, ih]
theorem cut_app {c : UInt8} (t : List UInt8) : ∀ {x : List UInt8}, c ∉ x → cutL c (x ++ c :: t) = x :: cutL c t
 | [], _ => by rw [List.nil_append, cutL, if_pos rfl]
 | b :: x, h => by
  have hb : ¬ b = c := fun e => h (e ▸ List.mem_cons_self)
  have ih := cut_app (c := c) t (x := x) fun hm => h (List.mem_cons_of_mem _ hm)
  rw [List.cons_append, cutL, if_neg hb, ih]
theorem cut_join {c : UInt8} : ∀ {L : List (List UInt8)}, L ≠ [] → (∀ x ∈ L, c ∉ x) → cutL c (Lib.join L [c]) = L
 | [], h, _ => absurd rfl h
 | [x], _, hc => by rw [Lib.join_one]; exact cut_none (hc x List.mem_cons_self)
 | x :: y :: L, _, hc => by
  rw [join_two _ _ (by simp), cut_app _ (hc x List.mem_cons_self), cut_join (by simp) fun z hz => hc z (List.mem_cons_of_mem _ hz)]
theorem cut_snoc {c b : UInt8} (h : b ≠ c) : ∀ l : List UInt8, ∃ x, (cutL c l).getLast? = some x ∧ cutL c (l ++ [b]) = (cutL c l).dropLast ++ [x ++ [b]]
 | [] => ⟨[], rfl, by
  show cutL c [b] = [[] ++ [b]]
  unfold cutL
  rw [if_neg h]; rfl⟩
 | a :: l => by
  obtain ⟨x, hx, e⟩ := cut_snoc h l
  have hn := cutL_ne c l
  by_cases ha : a = c
  ·refine ⟨x, ?_, ?_⟩
   ·rw [cutL, if_pos ha]
    cases hc : cutL c l with
    | nil => exact absurd hc hn
    | cons y r => rw [List.getLast?_cons_cons, ← hc]; exact hx
   ·rw [List.cons_append, cutL, if_pos ha, cutL, if_pos ha, e]
    cases hc : cutL c l with
    | nil => exact absurd hc hn
    | cons y r => rfl
  ·rw [List.cons_append, cutL, if_neg ha, cutL, if_neg ha, e]
   cases hc : cutL c l with
   | nil => exact absurd hc hn
   | cons y r =>
    rw [hc] at hx
    cases r with
    | nil =>
     cases hx
     exact ⟨a :: y, rfl, rfl⟩
    | cons z r =>
     refine ⟨x, ?_, rfl⟩
     rw [List.getLast?_cons_cons] at hx ⊢
     exact hx
theorem cut_snoc_c (c : UInt8) : ∀ l : List UInt8, cutL c (l ++ [c]) = cutL c l ++ [[]]
 | [] => by
  show cutL c [c] = [[], []]
  unfold cutL
  rw [if_pos rfl]; rfl
 | a :: l => by
  have ih := cut_snoc_c c l
  have hn := cutL_ne c l
  by_cases ha : a = c
  ·rw [List.cons_append, cutL, if_pos ha, cutL, if_pos ha, ih]; rfl
  ·rw [List.cons_append, cutL, if_neg ha, cutL, if_neg ha, ih]
   cases hc : cutL c l with
   | nil => exact absurd hc hn
   | cons y r => rfl
theorem ba_ext {a b : ByteArray} (h : a.data.toList = b.data.toList) : a = b := by
 cases a; cases b
 congr 1
 exact Array.ext' h
theorem map_ba {l m : List ByteArray} (h : l.map (·.data.toList) = m.map (·.data.toList)) : l = m := by
 induction l generalizing m with
 | nil => cases m with
  | nil => rfl
  | cons b m => cases h
 | cons a l ih => cases m with
  | nil => cases h
  | cons b m =>
   rw [List.map_cons, List.map_cons, List.cons.injEq] at h
   rw [ba_ext h.1, ih h.2]
theorem pcs_join {c : UInt8} {L : List ByteArray} (h : L ≠ []) (hc : ∀ x ∈ L, c ∉ x.data.toList) : pcs ⟨(Lib.join (L.map (·.data.toList)) [c]).toArray⟩ c = L := by
 apply map_ba
 rw [pcs_cut]
 show cutL c (Lib.join (L.map (·.data.toList)) [c]) = _
 refine cut_join (fun e => h (List.map_eq_nil_iff.1 e)) fun x hx => ?_
 obtain ⟨y, hy, rfl⟩ := List.mem_map.1 hx
 exact hc y hy
theorem join_pcs (s : ByteArray) (c : UInt8) : Lib.join ((pcs s c).map (·.data.toList)) [c] = s.data.toList := by rw [pcs_cut, join_cut]
def rowJ (r : List ByteArray) : List UInt8 := Lib.join (r.map (·.data.toList)) [32]
theorem text_join : ∀ {p : List (List ByteArray)}, p ≠ [] → textP p = Lib.join (p.map rowJ) [10] ++ [10]
 | [], h => absurd rfl h
 | [r], _ => by
  rw [List.map_cons, List.map_nil, Lib.join_one]
  unfold textP rowT rowJ; simp
 | r :: q :: p, _ => by
  have ih := text_join (p := q :: p) (by simp)
  have : textP (r :: q :: p) = rowT r ++ textP (q :: p) := by unfold textP; rw [List.map_cons, List.flatten_cons]
  rw [this, ih, show List.map rowJ (r :: q :: p) = rowJ r :: List.map rowJ (q :: p) from rfl, join_two _ _ (show List.map rowJ (q :: p) ≠ [] by simp), show rowT r = rowJ r ++ [10] from rfl]
  simp only [List.append_assoc, List.cons_append, List.nil_append]
theorem suf_app (t : List UInt8) : Lib.hasSuffix (t ++ [10]) [10] = true := by
 unfold Lib.hasSuffix
 rw [List.isSuffixOf_iff_suffix]
 exact ⟨t, rfl⟩
theorem suf_of {l : List UInt8} (h : Lib.hasSuffix l [10] = true) : ∃ t, l = t ++ [10] := by
 unfold Lib.hasSuffix at h
 rw [List.isSuffixOf_iff_suffix] at h
 obtain ⟨t, h⟩ := h
 exact ⟨t, h.symm⟩
theorem trim_app (t : List UInt8) : Lib.trimSuffix (t ++ [10]) [10] = t := by
 unfold Lib.trimSuffix
 rw [suf_app, if_pos rfl]
 simp
theorem entB_no {s : ByteArray} (h : entB s = true) {c : UInt8} (hc : entC c.toNat = false) : c ∉ s.data.toList := by
 intro hm
 unfold entB at h
 simp only [Bool.and_eq_true, List.all_eq_true] at h
 rw [h.2.2 c hm] at hc
 cases hc
theorem valid_ne {p : List (List ByteArray)} (h : validB p = true) : p ≠ [] := by
 rintro rfl
 have := (valid_len h).1.1
 simp at this
theorem valid_mem {p : List (List ByteArray)} (h : validB p = true) {r : List ByteArray} (hr : r ∈ p) : (2 ≤ r.length ∧ r.length ≤ 5) ∧ r.length = wideP p ∧ ∀ s ∈ r, entB s = true := by
 obtain ⟨k, hk⟩ := List.mem_iff_getElem?.1 hr
 exact valid_row h hk
theorem lines_text {p : List (List ByteArray)} (hv : validB p = true) : linesP ⟨(textP p).toArray⟩ = p := by
 have hb : bodyT ⟨(textP p).toArray⟩ = ⟨(Lib.join ((p.map fun r => (⟨(rowJ r).toArray⟩ : ByteArray)).map (·.data.toList)) [10]).toArray⟩ := by
  unfold bodyT
  have e : (ByteArray.mk (textP p).toArray).data.toList = Lib.join (p.map rowJ) [10] ++ [10] := text_join (valid_ne hv)
  rw [e, trim_app, List.map_map]
  rfl
 unfold linesP
 rw [hb, pcs_join (fun e => valid_ne hv (List.map_eq_nil_iff.1 e)), List.map_map]
 ·have : ∀ r ∈ p, ((fun l => pcs l 32) ∘ fun r => (⟨(rowJ r).toArray⟩ : ByteArray)) r = id r := fun r hr => by
   have hm := valid_mem hv hr
   exact pcs_join (by intro e; rw [e] at hm; simp at hm) fun x hx => entB_no (hm.2.2 x hx) (by decide)
  rw [List.map_congr_left this, List.map_id]
 ·intro x hx
  obtain ⟨r, hr, rfl⟩ := List.mem_map.1 hx
  have hm := valid_mem hv hr
  show (10 : UInt8) ∉ rowJ r
  have key : ∀ (l : List (List UInt8)), (∀ x ∈ l, (10 : UInt8) ∉ x) → (10 : UInt8) ∉ Lib.join l [32] := by
   intro l
   induction l with
   | nil => intro _; rw [Lib.join_nil]; simp
   | cons x l ih =>
    intro h
    cases l with
    | nil => rw [Lib.join_one]; exact h x List.mem_cons_self
    | cons y l =>
     rw [join_two _ _ (by simp), List.mem_append, List.mem_cons]
     rintro (h1 | h1 | h1)
     ·exact h x List.mem_cons_self h1
     ·exact absurd h1 (by decide)
     ·exact ih (fun z hz => h z (List.mem_cons_of_mem _ hz)) h1
  refine key _ fun x hx => ?_
  obtain ⟨s, hs, rfl⟩ := List.mem_map.1 hx
  exact entB_no (hm.2.2 s hs) (by decide)
theorem text_lines {s : ByteArray} (h : Lib.hasSuffix s.data.toList [10] = true) : textP (linesP s) = s.data.toList := by
 obtain ⟨t, ht⟩ := suf_of h
 have hb : (bodyT s).data.toList = t := by
  show Lib.trimSuffix s.data.toList [10] = t
  rw [ht, trim_app]
 have hne : pcs (bodyT s) 10 ≠ [] := fun e => by have := pcs_len (bodyT s) 10; rw [e] at this; simp at this
 unfold linesP
 rw [text_join fun e => hne (List.map_eq_nil_iff.1 e), List.map_map]
 have : rowJ ∘ (fun l => pcs l 32) = fun l => l.data.toList := by
  funext l
  exact join_pcs l 32
 rw [this, join_pcs, hb, ht]
theorem suf_text {p : List (List ByteArray)} (h : p ≠ []) : Lib.hasSuffix (textP p) [10] = true := by rw [text_join h]; exact suf_app _
theorem rowT_31 {r : List ByteArray} (h : ∀ x ∈ r, x.size ≤ 5) (h5 : r.length ≤ 5) : (rowT r).length ≤ 31 := by
 have := join_len (r.map (·.data.toList)) 5 (fun x hx => by
  obtain ⟨y, hy, rfl⟩ := List.mem_map.1 hx
  rw [bytes_len]; exact h y hy)
 rw [List.length_map] at this
 unfold rowT
 rw [List.length_append]
 simp only [List.length_cons, List.length_nil]; omega
theorem textP_31 {p : List (List ByteArray)} (h : validB p = true) : ∀ {k : Nat}, k ≤ p.length → (textP (p.take k)).length ≤ 31 * k
 | 0, _ => by simp [textP]
 | k + 1, hk => by
  obtain ⟨r, hr⟩ : ∃ r, p[k]? = some r := ⟨_, List.getElem?_eq_getElem (by omega)⟩
  have ih := textP_31 h (k := k) (by omega)
  have hvr := valid_row h hr
  have := rowT_31 (r := r) (fun x hx => (entB_size (hvr.2.2 x hx)).2) hvr.1.2
  rw [textP_snoc hr, List.length_append]; omega
theorem text_155 {p : List (List ByteArray)} (h : validB p = true) : (textP p).length ≤ 155 := by
 have := textP_31 h (Nat.le_refl _)
 rw [List.take_length] at this
 have := (valid_len h).1.2
 omega
def parE (s : ByteArray) : Int := if s.size ≤ 65536 then (if Lib.hasSuffix s.data.toList [10] = true ∧ (linesP s).length ≤ 5 ∧ validB (linesP s) = true then 0 else 5) else 2
theorem parE_0 {s : ByteArray} (h : parE s = 0) : s.size ≤ 65536 ∧ Lib.hasSuffix s.data.toList [10] = true ∧ (linesP s).length ≤ 5 ∧ validB (linesP s) = true := by
 unfold parE at h
 split at h
 ·rename_i h1
  split at h
  ·rename_i h2; exact ⟨h1, h2⟩
  ·cases h
 ·cases h
def parT (s : ByteArray) : TV := .tup [if parE s = 0 then pgV (linesP s) else .nilSl, .int .i64 (parE s)]
set_option linter.unusedVariables false
theorem wParseA_c (s : ByteArray) : PCalls Tryd.prog 24 [.str s] (parT s) := by
 unfold parT
 by_cases h : s.size ≤ 65536
 ·by_cases h2 : Lib.hasSuffix s.data.toList [10] = true
  ·have := wParse_c s h h2
   by_cases h3 : (linesP s).length ≤ 5 ∧ validB (linesP s) = true
   ·rw [if_pos h3] at this
    have e : parE s = 0 := by unfold parE; rw [if_pos h, if_pos ⟨h2, h3⟩]
    rw [e, if_pos rfl]
    exact this
   ·rw [if_neg h3] at this
    have e : parE s = 5 := by unfold parE; rw [if_pos h, if_neg fun e => h3 e.2]
    rw [e, if_neg (by decide)]
    exact this
  ·have := wParseS_c s h (by simpa using h2)
   have e : parE s = 5 := by unfold parE; rw [if_pos h, if_neg fun e => h2 e.1]
   rw [e, if_neg (by decide)]
   exact this
 ·have := wParseL_c s h
  have e : parE s = 2 := by unfold parE; rw [if_neg h]
  rw [e, if_neg (by decide)]
  exact this
def prtT (p : List (List ByteArray)) : TV := if validB p = true then .tup [.str ⟨(textP p).toArray⟩, .int .i64 0] else .tup [.str ⟨#[]⟩, .int .i64 90]
theorem wPrintA_c {s : TV} {p : List (List ByteArray)} (hs : pgR s p) : PCalls Tryd.prog 22 [s] (prtT p) := by
 unfold prtT
 by_cases h : validB p = true
 ·rw [if_pos h]; exact wPrint_c hs h
 ·rw [if_neg h]; exact wPrintN_c hs (by simpa using h)
end Go.Proofs.YtdkboibnokipaaaDoor

/- Part Wp3. -/
namespace Go.Ow
open Go Go.Pm
end Go.Ow

/- Part Wl. -/
namespace Go.Proofs.YtdkboibnokipaaaDoor
open Go.RowKit Go.Pm Go.Ow
set_option maxRecDepth 100000
set_option linter.unusedVariables false
set_option maxHeartbeats 4000000
theorem rIn_c (n lo hi : Int) : PCalls Tryd.prog 42 [.int .i64 n, .int .i64 lo, .int .i64 hi] (.bool (inW n lo hi)) := by
 refine pcalls_by Tryd.mixes noSpec_ok (fn := Tryd.f42) Tryd.func42 rfl (by kernel_rfl) (by show 3 ≤ _; decide) ?_
 simp (decide := true) (maxSteps := 4000000) only [go_sem, decide_true, Tryd.f42, inW, ge_iff_le]
noncomputable def rfIn : List TV → Option TV
 | [.int .i64 n, .int .i64 lo, .int .i64 hi] => some (.bool (inW n lo hi))
 | _ => none
theorem rfIn_ok : ∀ xs r, rfIn xs = some r → PCalls Tryd.prog 42 xs r := by
 intro xs r h
 unfold rfIn at h
 split at h
 ·cases h; exact rIn_c _ _ _
 ·cases h
attribute [go_sem] rfIn
noncomputable def spRa : Pm.Spec := noSpec.one 42 rfIn
@[go_sem] theorem spRa_p (f : FuncId) (xs : List TV) : spRa.p f xs = Pm.Spec.p (noSpec.one 42 rfIn) f xs := rfl
@[go_sem] theorem spRa_h (f : FuncId) (ps : List PV) (hl : List PO) : spRa.h f ps hl = Pm.Spec.h (noSpec.one 42 rfIn) f ps hl := rfl
@[go_sem] theorem spRa_y (Y : Pm.YS) (f : FuncId) (ps : List PV) (hl : List PO) : spRa.y Y f ps hl = Pm.Spec.y (noSpec.one 42 rfIn) Y f ps hl := rfl
@[go_sem] theorem spRa_pn (f : FuncId) (ps : List PV) (hl : List PO) : spRa.pn f ps hl = Pm.Spec.pn (noSpec.one 42 rfIn) f ps hl := rfl
@[go_sem] theorem spRa_fz (f : FuncId) : spRa.fz f = Pm.Spec.fz (noSpec.one 42 rfIn) f := rfl
@[go_sem] theorem spRa_fr (f : FuncId) : spRa.fr f = Pm.Spec.fr (noSpec.one 42 rfIn) f := rfl
@[go_sem] theorem spRa_yf (f : FuncId) : spRa.yf f = Pm.Spec.yf (noSpec.one 42 rfIn) f := rfl
@[go_sem] theorem spRa_gd : spRa.gd = Pm.Spec.gd (noSpec.one 42 rfIn) := rfl
@[go_sem] theorem spRa_mu (t : TypeId) : spRa.mu t = Pm.Spec.mu (noSpec.one 42 rfIn) t := rfl
@[go_sem] theorem spRa_nf (t : TypeId) : spRa.nf t = Pm.Spec.nf (noSpec.one 42 rfIn) t := rfl
theorem spRa_ok : SpecOk Tryd.prog spRa := Spec.one_ok rfIn_ok noSpec_ok

end Go.Proofs.YtdkboibnokipaaaDoor

/- Part W9. -/
namespace Go.Ow
open Go Go.RowKit Go.Pm
def rowF (r : List ByteArray) : TV := .sl (r.map .str) r.length false
def pgF (p : Pg) : TV := .sl (p.map rowF) p.length false
theorem pgF_R (p : Pg) : pgR (pgF p) p := .inr ⟨_, false, rfl, List.length_map _, fun k r t hr ht => by
 rw [List.getElem?_map, hr] at ht
 cases ht
 exact .inr ⟨false, rfl⟩⟩
theorem page_rows2 {s : TV} {p : Pg} (hs : pgR s p) (hok : shpOk p) : ∃ rs f, s = .sl rs p.length f ∧ rs.length = p.length ∧ ∀ (k : Nat) (r : List ByteArray) (t : TV), p[k]? = some r → rs[k]? = some t → ∃ g, t = .sl (r.map .str) r.length g := by
 have hvl := hok.1
 rcases hs with ⟨_, rfl⟩ | ⟨rs, f, h1, h2, h3⟩
 ·simp at hvl
 ·refine ⟨rs, f, h1, h2, fun k r t hr ht => ?_⟩
  have hk := (List.getElem?_eq_some_iff.1 hr).1
  have := (hok.2.1 k hk).1
  have e : rowA p k = r := by unfold rowA; rw [List.getD_eq_getElem?_getD, hr]; rfl
  rw [e] at this
  rcases h3 k r t hr ht with ⟨_, rfl⟩ | ⟨g, e⟩
  ·simp at this
  ·exact ⟨g, e⟩
end Go.Ow
namespace Go.Proofs.YtdkboibnokipaaaDoor
open Go.RowKit Go.Pm Go.Ow
set_option maxRecDepth 100000
set_option linter.unusedVariables false
set_option maxHeartbeats 8000000
end Go.Proofs.YtdkboibnokipaaaDoor

/- Part WA1. -/
namespace Go.Ow
open Go Go.RowKit Go.Pm
def entTo (s : ByteArray) : Nat → Bool
 | 0 => true
 | k + 1 => entTo s k && entC ((s.data.toList.getD k 0).toNat : Int)
theorem entTo_all {s : ByteArray} : ∀ k, k ≤ s.size → entTo s k = (s.data.toList.take k).all fun b => entC b.toNat
 | 0, _ => rfl
 | k + 1, h => by
  have hl := bytes_len s
  have e : s.data.toList[k]? = some (s.data.toList.getD k 0) := by rw [List.getD_eq_getElem?_getD, List.getElem?_eq_getElem (by omega)]; rfl
  rw [entTo, entTo_all k (by omega), List.take_add_one, e, List.all_append]
  simp
theorem entTo_mono {s : ByteArray} {k : Nat} (h : entTo s k = false) : ∀ m, k ≤ m → entTo s m = false
 | 0, hm => by have : k = 0 := by omega
               subst this; exact h
 | m + 1, hm => by
  by_cases e : k = m + 1
  ·subst e; exact h
  ·rw [entTo, entTo_mono h m (by omega)]; rfl
theorem entB_to (s : ByteArray) : entB s = ((inW s.size 1 5 && !(decide ((1 : Int) < s.size) && ((s.data.toList.getD 0 0).toNat : Int) == 48)) && entTo s s.size) := by
 rw [entTo_all _ (Nat.le_refl _), List.take_of_length_le (by rw [bytes_len]; exact Nat.le_refl _), Bool.and_assoc]; rfl
theorem shp_lost {p : Pg} (h : shpOk p) : lostP p ≤ 125 := by
 have h1 : ∀ r ∈ p, lostR r ≤ 25 := fun r hr => by
  obtain ⟨i, hi, rfl⟩ := List.getElem_of_mem hr
  have e : rowA p i = p[i] := by unfold rowA; rw [List.getD_eq_getElem?_getD, List.getElem?_eq_getElem hi]; rfl
  have hl := (h.2.1 i hi).1
  rw [e] at hl
  have := lostR_le (r := p[i]) (m := 5) fun s hs => by
   obtain ⟨k, hk, rfl⟩ := List.getElem_of_mem hs
   have := h.2.2 i k hi (by rw [e]; exact hk)
   rw [e] at this
   have e2 : entA p[i] k = p[i][k] := by unfold entA; rw [List.getD_eq_getElem?_getD, List.getElem?_eq_getElem hk]; rfl
   rw [e2] at this
   exact this.2
  omega
 have := lostP_le h1
 have := h.1.2
 omega
def okE (w : Nat) (r : List ByteArray) (k : Nat) : Bool := (inW r.length 2 5 && r.length == w) && (r.take k).all entB
theorem okE_all (w : Nat) (r : List ByteArray) {k : Nat} (h : r.length ≤ k) : okE w r k = rowOk w r := by unfold okE rowOk; rw [List.take_of_length_le h, Bool.and_assoc]
theorem okE_succ {w : Nat} {r : List ByteArray} {k : Nat} {x : ByteArray} (hx : r[k]? = some x) : okE w r (k + 1) = (okE w r k && entB x) := by
 unfold okE; rw [List.take_add_one, hx, List.all_append]; simp [Bool.and_assoc]
theorem okE_bad {w : Nat} {r : List ByteArray} {k : Nat} (h : okE w r k = false) : rowOk w r = false := by
 have hm : ∀ m, k ≤ m → okE w r m = false := by
  intro m
  induction m with
  | zero => intro hk; have : k = 0 := by omega
            subst this; exact h
  | succ m ih =>
   intro hk
   by_cases e : k = m + 1
   ·subst e; exact h
   ·have := ih (by omega)
    unfold okE at this ⊢
    rw [List.take_add_one, List.all_append, ← Bool.and_assoc, this]; rfl
 rw [← okE_all w r (Nat.le_max_left r.length k)]
 exact hm _ (Nat.le_max_right _ _)
def okR (p : Pg) (i : Nat) : Bool := inW p.length 2 5 && (p.take i).all (rowOk (wideP p))
theorem okR_all (p : Pg) {k : Nat} (h : p.length ≤ k) : okR p k = preB p := by unfold okR preB; rw [List.take_of_length_le h]
theorem okR_succ {p : Pg} {k : Nat} {r : List ByteArray} (hx : p[k]? = some r) : okR p (k + 1) = (okR p k && rowOk (wideP p) r) := by
 unfold okR; rw [List.take_add_one, hx, List.all_append]; simp [Bool.and_assoc]
theorem okR_bad {p : Pg} {k : Nat} (h : okR p k = false) : validB p = false := by
 have hm : ∀ m, k ≤ m → okR p m = false := by
  intro m
  induction m with
  | zero => intro hk; have : k = 0 := by omega
            subst this; exact h
  | succ m ih =>
   intro hk
   by_cases e : k = m + 1
   ·subst e; exact h
   ·have := ih (by omega)
    unfold okR at this ⊢
    rw [List.take_add_one, List.all_append, ← Bool.and_assoc, this]; rfl
 have : preB p = false := by
  rw [← okR_all p (Nat.le_max_left p.length k)]
  exact hm _ (Nat.le_max_right _ _)
 rw [valid_pre, this]; rfl
end Go.Ow
namespace Go.Proofs.YtdkboibnokipaaaDoor
open Go.RowKit Go.Pm Go.Ow
set_option maxRecDepth 100000
set_option linter.unusedVariables false
set_option maxHeartbeats 8000000
theorem rEntry_c (s : ByteArray) : PCalls Tryd.prog 58 [.str s] (.bool (entB s)) := by
 refine pcalls_by Tryd.mixes (Spec.gdt_ok spRa_ok) (fn := Tryd.f58) Tryd.func58 rfl (by kernel_rfl) (by show 1 ≤ _; decide) ?_
 have hlen := bytes_len s
 have hgd : (s.data.getD 0 0) = s.data.toList.getD 0 0 := by simp
 rw [entB_to]
 obtain ⟨y0, hy0⟩ : ∃ y, s.data.getD 0 0 = y := ⟨_, rfl⟩
 rw [← hgd, hy0]
 rcases Bool.eq_false_or_eq_true (inW s.size 1 5) with h1 | h1
 rotate_left
 ·rw [h1, Bool.false_and, Bool.false_and]
  simp (decide := true) (implicitDefEqProofs := false) (maxSteps := 4000000) only [go_sem, Tryd.f58, h1]
  refine pwpC_loopU (A := Unit) [0] (fun _ => [(3, .t (.bool false)), (4, .t (.int .i64 0))]) (fun _ => []) (fun _ => 0) () (by decide) (fun _ => by rfl) ?_ fun Q1 hQ1 _ I1 hI1 => ?_
  ·simp (decide := true) (implicitDefEqProofs := false) (maxSteps := 4000000) only [go_sem]
  ·simp (decide := true) (implicitDefEqProofs := false) (maxSteps := 4000000) only [go_sem]
   refine hQ1 _ _ ?_
   simp (decide := true) (implicitDefEqProofs := false) (maxSteps := 4000000) only [go_sem]
 ·have hb := inW_iff.1 h1
  rw [h1, Bool.true_and]
  by_cases h2 : ¬ (s.size : Int) = 1 ∧ (y0.toNat : Int) = 48
  ·have c1 : ((s.size : Int) == 1) = false := by rw [beq_eq_false_iff_ne]; exact h2.1
   have c2 : ((y0.toNat : Int) != 48) = false := by rw [h2.2]; rfl
   have c3 : ((y0.toNat : Int) == 48) = true := by rw [h2.2]; rfl
   have c4 : decide ((1 : Int) < s.size) = true := by rw [decide_eq_true_eq]; omega
   have c5 : (0 : Int) < s.size := by omega
   rw [c3, c4]
   simp (decide := true) (implicitDefEqProofs := false) (maxSteps := 4000000) only [go_sem, Tryd.f58, h1, c1, hy0, c2, c5]
   refine pwpC_loopU (A := Unit) [0] (fun _ => [(3, .t (.bool false)), (4, .t (.int .i64 0))]) (fun _ => []) (fun _ => 0) () (by decide) (fun _ => by rfl) ?_ fun Q1 hQ1 _ I1 hI1 => ?_
   ·simp (decide := true) (implicitDefEqProofs := false) (maxSteps := 4000000) only [go_sem]
    first | done | trace_state
   ·simp (decide := true) (implicitDefEqProofs := false) (maxSteps := 4000000) only [go_sem]
    refine hQ1 _ _ ?_
    simp (decide := true) (implicitDefEqProofs := false) (maxSteps := 4000000) only [go_sem]
    first | done | trace_state
  ·have hd : (!(decide ((1 : Int) < s.size) && (y0.toNat : Int) == 48)) = true := by
    rw [Bool.not_eq_true', Bool.and_eq_false_iff]
    by_cases e : (s.size : Int) = 1
    ·left; rw [decide_eq_false_iff_not]; omega
    ·right; rw [beq_eq_false_iff_ne]; exact fun h => h2 ⟨e, h⟩
   rw [hd, Bool.true_and]
   have c5 : (0 : Int) < s.size := by omega
   rcases (Decidable.em ((s.size : Int) = 1)) with c1 | c1
   ·have c1' : ((s.size : Int) == 1) = true := by rw [beq_iff_eq]; exact c1
    simp (decide := true) (implicitDefEqProofs := false) (maxSteps := 4000000) only [go_sem, Tryd.f58, h1, c1']
    refine pwpC_loopU (A := { k : Nat // k ≤ s.size }) [0] (fun k => [(3, .t (.bool (entTo s k.1))), (4, .t (.int .i64 k.1))]) (fun _ => []) (fun k => s.size - k.1) ⟨0, Nat.zero_le _⟩ (by decide) (fun _ => by rfl) ?_ fun Q1 hQ1 ⟨k, hk⟩ I1 hI1 => ?_
    ·simp (decide := true) (implicitDefEqProofs := false) (maxSteps := 4000000) only [go_sem, entTo]
    ·rcases Bool.eq_false_or_eq_true (entTo s k) with ho | ho
     rotate_left
     ·have hbd := entTo_mono ho s.size hk
      simp (decide := true) (implicitDefEqProofs := false) (maxSteps := 4000000) only [go_sem, ho]
      refine hQ1 _ _ ?_
      simp (decide := true) (implicitDefEqProofs := false) (maxSteps := 4000000) only [go_sem, hbd]
     ·by_cases hlt : (k : Int) < s.size
      ·obtain ⟨x, hx⟩ : ∃ x, s.data.toList[k]? = some x := ⟨_, List.getElem?_eq_getElem (by omega)⟩
       have hg : s.data.getD k 0 = x := by
        have : s.data[k]? = some x := by rw [← Array.getElem?_toList]; exact hx
        simp [this]
       have hk1 : IntKind.i64.wrap ((k : Int) + 1) = ((k + 1 : Nat) : Int) := by rw [wrap_in (by omega) (by omega)]; omega
       have en : entTo s (k + 1) = entC (x.toNat : Int) := by rw [entTo, ho, List.getD_eq_getElem?_getD, hx]; rfl
       unfold entC inW at en
       by_cases a1 : (x.toNat : Int) = 63
       ·have c6 : ((x.toNat : Int) == 63) = true := by rw [a1]; rfl
        rw [c6, Bool.true_or] at en
        simp (decide := true) (implicitDefEqProofs := false) (maxSteps := 4000000) only [go_sem, ho, hlt, hg, c6]
        refine hI1 _ ⟨k + 1, by omega⟩ (by simp only; omega) ?_
        simp (decide := true) (implicitDefEqProofs := false) (maxSteps := 4000000) only [go_sem, hk1, en]
        first | done | trace_state
       ·have c6 : ((x.toNat : Int) == 63) = false := by rw [beq_eq_false_iff_ne]; exact a1
        rw [c6, Bool.false_or] at en
        by_cases a2 : (x.toNat : Int) ≥ 48
        ·by_cases a3 : (x.toNat : Int) ≤ 57
         ·rw [decide_eq_true a2, decide_eq_true a3] at en
          simp (decide := true) (implicitDefEqProofs := false) (maxSteps := 4000000) only [go_sem, ho, hlt, hg, c6, a2, a3]
          refine hI1 _ ⟨k + 1, by omega⟩ (by simp only; omega) ?_
          simp (decide := true) (implicitDefEqProofs := false) (maxSteps := 4000000) only [go_sem, hk1, en]
          first | done | trace_state
         ·rw [decide_eq_false a3, Bool.and_false] at en
          simp (decide := true) (implicitDefEqProofs := false) (maxSteps := 4000000) only [go_sem, ho, hlt, hg, c6, a2, a3]
          refine hI1 _ ⟨k + 1, by omega⟩ (by simp only; omega) ?_
          simp (decide := true) (implicitDefEqProofs := false) (maxSteps := 4000000) only [go_sem, hk1, en]
          first | done | trace_state
        ·rw [decide_eq_false a2, Bool.false_and] at en
         simp (decide := true) (implicitDefEqProofs := false) (maxSteps := 4000000) only [go_sem, ho, hlt, hg, c6, a2]
         refine hI1 _ ⟨k + 1, by omega⟩ (by simp only; omega) ?_
         simp (decide := true) (implicitDefEqProofs := false) (maxSteps := 4000000) only [go_sem, hk1, en]
         first | done | trace_state
      ·have hke : k = s.size := by omega
       subst hke
       simp (decide := true) (implicitDefEqProofs := false) (maxSteps := 4000000) only [go_sem, ho, hlt]
       refine hQ1 _ _ ?_
       simp (decide := true) (implicitDefEqProofs := false) (maxSteps := 4000000) only [go_sem, ho]
       first | done | trace_state
   ·have c1' : ((s.size : Int) == 1) = false := by rw [beq_eq_false_iff_ne]; exact c1
    have c2 : ((y0.toNat : Int) != 48) = true := by rw [bne_iff_ne]; exact fun h => h2 ⟨c1, h⟩
    simp (decide := true) (implicitDefEqProofs := false) (maxSteps := 4000000) only [go_sem, Tryd.f58, h1, c1', hy0, c2, c5]
    refine pwpC_loopU (A := { k : Nat // k ≤ s.size }) [0] (fun k => [(3, .t (.bool (entTo s k.1))), (4, .t (.int .i64 k.1))]) (fun _ => []) (fun k => s.size - k.1) ⟨0, Nat.zero_le _⟩ (by decide) (fun _ => by rfl) ?_ fun Q1 hQ1 ⟨k, hk⟩ I1 hI1 => ?_
    ·simp (decide := true) (implicitDefEqProofs := false) (maxSteps := 4000000) only [go_sem, entTo]
    ·rcases Bool.eq_false_or_eq_true (entTo s k) with ho | ho
     rotate_left
     ·have hbd := entTo_mono ho s.size hk
      simp (decide := true) (implicitDefEqProofs := false) (maxSteps := 4000000) only [go_sem, ho]
      refine hQ1 _ _ ?_
      simp (decide := true) (implicitDefEqProofs := false) (maxSteps := 4000000) only [go_sem, hbd]
     ·by_cases hlt : (k : Int) < s.size
      ·obtain ⟨x, hx⟩ : ∃ x, s.data.toList[k]? = some x := ⟨_, List.getElem?_eq_getElem (by omega)⟩
       have hg : s.data.getD k 0 = x := by
        have : s.data[k]? = some x := by rw [← Array.getElem?_toList]; exact hx
        simp [this]
       have hk1 : IntKind.i64.wrap ((k : Int) + 1) = ((k + 1 : Nat) : Int) := by rw [wrap_in (by omega) (by omega)]; omega
       have en : entTo s (k + 1) = entC (x.toNat : Int) := by rw [entTo, ho, List.getD_eq_getElem?_getD, hx]; rfl
       unfold entC inW at en
       by_cases a1 : (x.toNat : Int) = 63
       ·have c6 : ((x.toNat : Int) == 63) = true := by rw [a1]; rfl
        rw [c6, Bool.true_or] at en
        simp (decide := true) (implicitDefEqProofs := false) (maxSteps := 4000000) only [go_sem, ho, hlt, hg, c6]
        refine hI1 _ ⟨k + 1, by omega⟩ (by simp only; omega) ?_
        simp (decide := true) (implicitDefEqProofs := false) (maxSteps := 4000000) only [go_sem, hk1, en]
        first | done | trace_state
       ·have c6 : ((x.toNat : Int) == 63) = false := by rw [beq_eq_false_iff_ne]; exact a1
        rw [c6, Bool.false_or] at en
        by_cases a2 : (x.toNat : Int) ≥ 48
        ·by_cases a3 : (x.toNat : Int) ≤ 57
         ·rw [decide_eq_true a2, decide_eq_true a3] at en
          simp (decide := true) (implicitDefEqProofs := false) (maxSteps := 4000000) only [go_sem, ho, hlt, hg, c6, a2, a3]
          refine hI1 _ ⟨k + 1, by omega⟩ (by simp only; omega) ?_
          simp (decide := true) (implicitDefEqProofs := false) (maxSteps := 4000000) only [go_sem, hk1, en]
          first | done | trace_state
         ·rw [decide_eq_false a3, Bool.and_false] at en
          simp (decide := true) (implicitDefEqProofs := false) (maxSteps := 4000000) only [go_sem, ho, hlt, hg, c6, a2, a3]
          refine hI1 _ ⟨k + 1, by omega⟩ (by simp only; omega) ?_
          simp (decide := true) (implicitDefEqProofs := false) (maxSteps := 4000000) only [go_sem, hk1, en]
          first | done | trace_state
        ·rw [decide_eq_false a2, Bool.false_and] at en
         simp (decide := true) (implicitDefEqProofs := false) (maxSteps := 4000000) only [go_sem, ho, hlt, hg, c6, a2]
         refine hI1 _ ⟨k + 1, by omega⟩ (by simp only; omega) ?_
         simp (decide := true) (implicitDefEqProofs := false) (maxSteps := 4000000) only [go_sem, hk1, en]
         first | done | trace_state
      ·have hke : k = s.size := by omega
       subst hke
       simp (decide := true) (implicitDefEqProofs := false) (maxSteps := 4000000) only [go_sem, ho, hlt]
       refine hQ1 _ _ ?_
       simp (decide := true) (implicitDefEqProofs := false) (maxSteps := 4000000) only [go_sem, ho]
       first | done | trace_state
theorem rLost_c {s : TV} {p : Pg} (hs : pgR s p) (hok : shpOk p) : PCalls Tryd.prog 55 [s] (lostT (placesP p)) := by
 obtain ⟨rs, f, rfl, hrl, hrs⟩ := page_rows2 hs hok
 have hlp := places_len p
 have hll := shp_lost hok
 have hvl := hok.1
 obtain ⟨R, hR⟩ : ∃ R, lostT (placesP p) = R := ⟨_, rfl⟩
 rw [hR]
 refine pcalls_by Tryd.mixes (Spec.gdt_ok noSpec_ok) (fn := Tryd.f55) Tryd.func55 rfl (by kernel_rfl) (by show 1 ≤ _; decide) ?_
 simp (decide := true) (implicitDefEqProofs := false) (maxSteps := 4000000) only [go_sem, Tryd.f55]
 refine pwpC_loopU (A := { i : Nat // i ≤ p.length }) [0] (fun i => [(4, .t (.int .i64 i.1)), (3, .own ((upP p i.1).flatMap plC) (upP p i.1).length 0)]) (fun i => [(0, .tok (upP p i.1).length 29)]) (fun i => p.length - i.1) ⟨0, by omega⟩ (by decide) (fun _ => by rfl) ?_ fun Q1 hQ1 ⟨i, hi⟩ I1 hI1 => ?_
 ·simp (decide := true) (implicitDefEqProofs := false) (maxSteps := 4000000) only [go_sem, show upP p 0 = [] from rfl, List.flatMap_nil, List.length_nil]
  first | done | trace_state
 ·by_cases hlt : (i : Int) < p.length
  ·obtain ⟨r, hr⟩ : ∃ r, p[i]? = some r := ⟨_, List.getElem?_eq_getElem (by omega)⟩
   obtain ⟨t, ht⟩ : ∃ t, rs[i]? = some t := ⟨_, List.getElem?_eq_getElem (by omega)⟩
   obtain ⟨g, rfl⟩ := hrs i r t hr ht
   have d1 := tv_at ht
   have er : rowA p i = r := by unfold rowA; rw [List.getD_eq_getElem?_getD, hr]; rfl
   have hrow := hok.2.1 i (by omega)
   rw [er] at hrow
   have hk1 : IntKind.i64.wrap ((i : Int) + 1) = ((i + 1 : Nat) : Int) := by rw [wrap_in (by omega) (by omega)]; omega
   have hus := upP_succ p i
   rw [er] at hus
   obtain ⟨U, hU⟩ : ∃ U, upP p i = U := ⟨_, rfl⟩
   rw [hU] at hus
   have hUl : U.length + (upR i r r.length).length ≤ 125 := by
    have h1 := upP_len p (i + 1) (by omega)
    rw [hus, List.length_append] at h1
    have h2 := lostP_mono p (i + 1)
    omega
   have hmono : ∀ k, k ≤ r.length → (upR i r k).length ≤ (upR i r r.length).length := fun k hk => by
    rw [upR_len i r k hk, upR_len i r _ (Nat.le_refl _), List.take_length]; exact lostR_mono r k
   simp (decide := true) (implicitDefEqProofs := false) (maxSteps := 4000000) only [go_sem, hlt, hU]
   refine pwpC_loopU (A := { k : Nat // k ≤ r.length }) [0, 4] (fun k => [(5, .t (.int .i64 k.1)), (3, .own ((U ++ upR i r k.1).flatMap plC) (U ++ upR i r k.1).length 0)]) (fun k => [(0, .tok (U ++ upR i r k.1).length 29)]) (fun k => r.length - k.1) ⟨0, by omega⟩ (by decide) (fun _ => by rfl) ?_ fun Q2 hQ2 ⟨k, hk⟩ I2 hI2 => ?_
   ·simp (decide := true) (implicitDefEqProofs := false) (maxSteps := 4000000) only [go_sem, show upR i r 0 = [] from rfl, List.append_nil]
    first | done | trace_state
   ·by_cases hlt2 : (k : Int) < r.length
    ·obtain ⟨x, hx⟩ : ∃ x, r[k]? = some x := ⟨_, List.getElem?_eq_getElem (by omega)⟩
     have dx := txs_at hx
     have hk2 : IntKind.i64.wrap ((k : Int) + 1) = ((k + 1 : Nat) : Int) := by rw [wrap_in (by omega) (by omega)]; omega
     have ex : entA r k = x := by unfold entA; rw [List.getD_eq_getElem?_getD, hx]; rfl
     have hxs := hok.2.2 i k (by omega) (by rw [er]; omega)
     rw [er, ex] at hxs
     have hus2 := upR_succ i r k
     rw [ex] at hus2
     have hm1 := hmono (k + 1) (by omega)
     rw [hus2, List.length_append] at hm1
     obtain ⟨V, hV⟩ : ∃ V, U ++ upR i r k = V := ⟨_, rfl⟩
     have hVs : U ++ upR i r (k + 1) = V ++ upS i k x x.size := by rw [hus2, ← List.append_assoc, hV]
     have hVl : V.length + (upS i k x x.size).length ≤ 125 := by rw [← hV, List.length_append]; omega
     have hlen := bytes_len x
     simp (decide := true) (implicitDefEqProofs := false) (maxSteps := 4000000) only [go_sem, hlt, d1, hlt2, hV, Nat.mul_one]
     refine pwpC_loopU (A := { j : Nat // j ≤ x.size ∧ (upS i k x j).length ≤ (upS i k x x.size).length }) [0, 4, 5] (fun j => [(6, .t (.int .i64 j.1)), (3, .own ((V ++ upS i k x j.1).flatMap plC) (V ++ upS i k x j.1).length 0)]) (fun j => [(0, .tok (V ++ upS i k x j.1).length 29)]) (fun j => x.size - j.1) ⟨0, by omega, by simp [upS]⟩ (by decide) (fun _ => by rfl) ?_ fun Q3 hQ3 ⟨j, hj, hjl⟩ I3 hI3 => ?_
     ·simp (decide := true) (implicitDefEqProofs := false) (maxSteps := 4000000) only [go_sem, show upS i k x 0 = [] from rfl, List.append_nil]
      first | done | trace_state
     ·by_cases hlt3 : (j : Int) < x.size
      ·obtain ⟨b, hb⟩ : ∃ b, x.data.toList[j]? = some b := ⟨_, List.getElem?_eq_getElem (by omega)⟩
       have hg : x.data.getD j 0 = b := by
        have : x.data[j]? = some b := by rw [← Array.getElem?_toList]; exact hb
        simp [this]
       have eb : x.data.toList.getD j 0 = b := by rw [List.getD_eq_getElem?_getD, hb]; rfl
       have hus3 := upS_succ i k x j
       rw [eb] at hus3
       have hk3 : IntKind.i64.wrap ((j : Int) + 1) = ((j + 1 : Nat) : Int) := by rw [wrap_in (by omega) (by omega)]; omega
       have hjm : (upS i k x (j + 1)).length ≤ (upS i k x x.size).length := by
        rw [upS_len i k x (j + 1) (by omega), upS_len i k x x.size (Nat.le_refl _)]
        rw [show List.take x.size x.data.toList = x.data.toList from List.take_of_length_le (by omega)]
        exact List.Sublist.count_le _ (List.take_sublist _ _)
       by_cases hq : b = 63
       ·rw [if_pos hq] at hus3
        have c1 : ((b.toNat : Int) == 63) = true := by rw [hq]; rfl
        obtain ⟨W, hW⟩ : ∃ W, V ++ upS i k x j = W := ⟨_, rfl⟩
        have hWs : V ++ upS i k x (j + 1) = W ++ [(i, k, j)] := by rw [hus3, ← List.append_assoc, hW]
        have hWl : W.length ≤ 125 := by rw [← hW, List.length_append]; omega
        have hwr : (W.length + 1) * 24 ≤ 140737488355328 := by omega
        have hwf := plC_len W
        simp (decide := true) (implicitDefEqProofs := false) (maxSteps := 4000000) only [go_sem, hlt, d1, hlt2, dx, hlt3, hg, c1, hW, hwr, hwf, Nat.mul_one]
        refine hI3 _ ⟨j + 1, by omega, hjm⟩ (by simp only; omega) ?_
        simp (decide := true) (implicitDefEqProofs := false) (maxSteps := 4000000) only [go_sem, hk3, hWs, List.flatMap_append, List.flatMap_cons, List.flatMap_nil, plC, List.length_append, List.append_nil, List.length_cons, List.length_nil]
        first | done | trace_state
       ·rw [if_neg hq, List.append_nil] at hus3
        have c1 : ((b.toNat : Int) == 63) = false := by
         have : ¬ (b.toNat : Int) = 63 := fun e => hq (UInt8.toNat_inj.1 (show b.toNat = 63 by omega))
         simpa using this
        simp (decide := true) (implicitDefEqProofs := false) (maxSteps := 4000000) only [go_sem, hlt, d1, hlt2, dx, hlt3, hg, c1, Nat.mul_one]
        refine hI3 _ ⟨j + 1, by omega, hjm⟩ (by simp only; omega) ?_
        simp (decide := true) (implicitDefEqProofs := false) (maxSteps := 4000000) only [go_sem, hk3, hus3]
        first | done | trace_state
      ·have hje : j = x.size := by omega
       subst hje
       simp (decide := true) (implicitDefEqProofs := false) (maxSteps := 4000000) only [go_sem, hlt, d1, hlt2, dx, hlt3, Nat.mul_one]
       refine hQ3 _ _ ?_
       simp (decide := true) (implicitDefEqProofs := false) (maxSteps := 4000000) only [go_sem]
       refine hI2 _ ⟨k + 1, by omega⟩ (by simp only; omega) ?_
       simp (decide := true) (implicitDefEqProofs := false) (maxSteps := 4000000) only [go_sem, hk2, hVs]
       first | done | trace_state
    ·have hke : k = r.length := by omega
     subst hke
     simp (decide := true) (implicitDefEqProofs := false) (maxSteps := 4000000) only [go_sem, hlt, d1, hlt2, Nat.mul_one]
     refine hQ2 _ _ ?_
     simp (decide := true) (implicitDefEqProofs := false) (maxSteps := 4000000) only [go_sem]
     refine hI1 _ ⟨i + 1, by omega⟩ (by simp only; omega) ?_
     simp (decide := true) (implicitDefEqProofs := false) (maxSteps := 4000000) only [go_sem, hk1, hus]
     first | done | trace_state
  ·have hie : i = p.length := by omega
   subst hie
   obtain ⟨L, hL⟩ : ∃ L, upP p p.length = L := ⟨_, rfl⟩
   have hL2 : placesP p = L := hL
   rw [hL2] at hR
   unfold lostT at hR
   by_cases h0 : L.length = 0
   ·rw [if_pos h0] at hR
    simp (decide := true) (implicitDefEqProofs := false) (maxSteps := 4000000) only [go_sem, hlt, hL]
    refine hQ1 _ _ ?_
    simp (decide := true) (implicitDefEqProofs := false) (maxSteps := 4000000) only [go_sem, h0, ← hR]
    first | done | trace_state
   ·rw [if_neg h0] at hR
    simp (decide := true) (implicitDefEqProofs := false) (maxSteps := 4000000) only [go_sem, hlt, hL]
    refine hQ1 _ _ ?_
    simp (decide := true) (implicitDefEqProofs := false) (maxSteps := 4000000) only [go_sem, h0, ← hR]
    first | done | trace_state
noncomputable def rfEntry : List TV → Option TV
 | [.str s] => some (.bool (entB s))
 | _ => none
theorem rfEntry_ok : ∀ xs r, rfEntry xs = some r → PCalls Tryd.prog 58 xs r := by
 intro xs r h
 unfold rfEntry at h
 split at h
 ·cases h; exact rEntry_c _
 ·cases h
attribute [go_sem] rfEntry
end Go.Proofs.YtdkboibnokipaaaDoor

/- Part WA2. -/
namespace Go.Proofs.YtdkboibnokipaaaDoor
open Go.RowKit Go.Pm Go.Ow
set_option maxRecDepth 100000
set_option linter.unusedVariables false
set_option maxHeartbeats 8000000
theorem lostT_len (L : List Pl) : (L.length = 0 ∧ lostT L = .nilSl) ∨ (L.length ≠ 0 ∧ lostT L = .sl (L.flatMap plC) L.length false) := by
 unfold lostT
 by_cases h : L.length = 0
 ·rw [if_pos h]; exact .inl ⟨h, rfl⟩
 ·rw [if_neg h]; exact .inr ⟨h, rfl⟩
noncomputable def spWA : Pm.Spec := ((noSpec.one 42 rfIn).one 58 rfEntry).gdt
theorem spWA_ok : SpecOk Tryd.prog spWA := Spec.gdt_ok (Spec.one_ok rfEntry_ok (Spec.one_ok rfIn_ok noSpec_ok))
theorem rCheckPage_c {s : TV} {p : Pg} (hs : pgR s p) (hb : p.length ≤ 140737488355328) (hb2 : ∀ r ∈ p, r.length ≤ 140737488355328) : PCalls Tryd.prog 18 [s] (.int .i64 (if validB p then 0 else 90)) := by
 by_cases h1 : inW p.length 2 5 = true
 rotate_left
 ·have h1 : inW p.length 2 5 = false := by simpa using h1
  have e : validB p = false := by unfold validB; rw [h1]; rfl
  refine pcalls_by Tryd.mixes spWA_ok (fn := Tryd.f18) Tryd.func18 rfl (by kernel_rfl) (by show 1 ≤ _; decide) ?_
  rcases hs with ⟨rfl, rfl⟩ | ⟨rs, f, rfl, hrl, hrs⟩
  ·have h1' : inW 0 2 5 = false := rfl
   simp (decide := true) (implicitDefEqProofs := false) (maxSteps := 4000000) only [go_sem, Tryd.f18, spWA, h1', e]
   refine pwpC_loopU (A := Unit) [0] (fun _ => [(3, .t (.bool false)), (4, .t (.int .i64 0))]) (fun _ => []) (fun _ => 0) () (by decide) (fun _ => by rfl) ?_ fun Q1 hQ1 _ I1 hI1 => ?_
   ·simp (decide := true) (implicitDefEqProofs := false) (maxSteps := 4000000) only [go_sem, spWA]
   ·simp (decide := true) (implicitDefEqProofs := false) (maxSteps := 4000000) only [go_sem, spWA]
    refine hQ1 _ _ ?_
    simp (decide := true) (implicitDefEqProofs := false) (maxSteps := 4000000) only [go_sem, spWA, e]
    first | done | trace_state
  ·simp (decide := true) (implicitDefEqProofs := false) (maxSteps := 4000000) only [go_sem, Tryd.f18, spWA, h1, e]
   refine pwpC_loopU (A := Unit) [0] (fun _ => [(3, .t (.bool false)), (4, .t (.int .i64 0))]) (fun _ => []) (fun _ => 0) () (by decide) (fun _ => by rfl) ?_ fun Q1 hQ1 _ I1 hI1 => ?_
   ·simp (decide := true) (implicitDefEqProofs := false) (maxSteps := 4000000) only [go_sem, spWA]
   ·simp (decide := true) (implicitDefEqProofs := false) (maxSteps := 4000000) only [go_sem, spWA]
    refine hQ1 _ _ ?_
    simp (decide := true) (implicitDefEqProofs := false) (maxSteps := 4000000) only [go_sem, spWA, e]
    first | done | trace_state
 ·have hb := inW_iff.1 h1
  obtain ⟨L, hL⟩ : ∃ L, placesP p = L := ⟨_, rfl⟩
  have hlost : preB p = true → PCalls Tryd.prog 55 [s] (lostT L) := fun h => by rw [← hL]; exact rLost_c hs (pre_iff.1 h).1
  have hval : preB p = true → validB p = decide (L.length ≤ 5) := fun h => by rw [valid_pre, h, ← places_len, hL]; rfl
  have hsp : SpecOk Tryd.prog (((noSpec.one 42 rfIn).one 58 rfEntry).one 55 (fun a => if preB p = true then oneP [s] (lostT L) a else none)).gdt := Spec.gdt_ok (Spec.one_ok (fun a r h => by
   split at h
   ·rename_i hp; exact oneP_ok (hlost hp) a r h
   ·cases h) (Spec.one_ok rfEntry_ok (Spec.one_ok rfIn_ok noSpec_ok)))
  rcases hs with ⟨rfl, rfl⟩ | ⟨rs, f, rfl, hrl, hrs⟩
  ·simp at hb
  obtain ⟨r0, hr0⟩ : ∃ r, p[0]? = some r := ⟨_, List.getElem?_eq_getElem (by omega)⟩
  obtain ⟨t0, ht0⟩ : ∃ t, rs[0]? = some t := ⟨_, List.getElem?_eq_getElem (by omega)⟩
  have hx0 := hrs 0 r0 t0 hr0 ht0
  have hw0 : wideP p = r0.length := by unfold wideP; rw [List.getD_eq_getElem?_getD, hr0]; rfl
  have d0 := tv_at ht0
  have h0 : (0 : Int) < p.length := by omega
  refine pcalls_by Tryd.mixes hsp (fn := Tryd.f18) Tryd.func18 rfl (by kernel_rfl) (by show 1 ≤ _; decide) ?_
  simp (decide := true) (implicitDefEqProofs := false) (maxSteps := 4000000) only [go_sem, Tryd.f18, h1]
  refine pwpC_loopU (A := { i : Nat // i ≤ p.length }) [0] (fun i => [(3, .t (.bool (okR p i.1))), (4, .t (.int .i64 i.1))]) (fun _ => []) (fun i => p.length - i.1) ⟨0, by omega⟩ (by decide) (fun _ => by rfl) ?_ fun Q1 hQ1 ⟨i, hi⟩ I1 hI1 => ?_
  ·have e : okR p 0 = true := by unfold okR; rw [h1]; rfl
   simp (decide := true) (implicitDefEqProofs := false) (maxSteps := 4000000) only [go_sem, e]
   first | done | trace_state
  ·rcases Bool.eq_false_or_eq_true (okR p i) with ho | ho
   rotate_left
   ·have e := okR_bad ho
    simp (decide := true) (implicitDefEqProofs := false) (maxSteps := 4000000) only [go_sem, ho]
    refine hQ1 _ _ ?_
    simp (decide := true) (implicitDefEqProofs := false) (maxSteps := 4000000) only [go_sem, ho, e]
    first | done | trace_state
   ·by_cases hlt : (i : Int) < p.length
    ·obtain ⟨r, hr⟩ : ∃ r, p[i]? = some r := ⟨_, List.getElem?_eq_getElem (by omega)⟩
     obtain ⟨t, ht⟩ : ∃ t, rs[i]? = some t := ⟨_, List.getElem?_eq_getElem (by omega)⟩
     have hx := hrs i r t hr ht
     have d1 := tv_at ht
     have hrb := hb2 r (List.mem_of_getElem? hr)
     have hk1 : IntKind.i64.wrap ((i : Int) + 1) = ((i + 1 : Nat) : Int) := by rw [wrap_in (by omega) (by omega)]; omega
     have hsucc := okR_succ hr
     rw [ho, Bool.true_and, hw0] at hsucc
     rcases Bool.eq_false_or_eq_true (inW r.length 2 5 && r.length == r0.length) with h2 | h2
     rotate_left
     ·have e0 : okE r0.length r 0 = false := by unfold okE; rw [h2]; rfl
      have e1 := okE_bad e0
      rw [e1] at hsucc
      rcases Bool.eq_false_or_eq_true (inW r.length 2 5) with h3 | h3
      ·rw [h3, Bool.true_and] at h2
       have hb3 := inW_iff.1 h3
       obtain ⟨g, rfl⟩ : ∃ g, t = .sl (r.map .str) r.length g := by
        rcases hx with ⟨_, rfl⟩ | ⟨g, e⟩
        ·simp at hb3
        ·exact ⟨g, e⟩
       have hne : ¬ r.length = r0.length := by simpa using h2
       rcases hx0 with ⟨rfl, rfl⟩ | ⟨g0, rfl⟩
       ·have h3'' : ((r.length : Int) == 0) = false := by rw [beq_eq_false_iff_ne]; omega
        simp (decide := true) (implicitDefEqProofs := false) (maxSteps := 4000000) only [go_sem, ho, hlt, d1, h3, h0, d0, h3'', Nat.mul_one]
        refine pwpC_loopU (A := Unit) [0, 4] (fun _ => [(3, .t (.bool false)), (5, .t (.int .i64 0))]) (fun _ => []) (fun _ => 0) () (by decide) (fun _ => by rfl) ?_ fun Q2 hQ2 _ I2 hI2 => ?_
        ·simp (decide := true) (implicitDefEqProofs := false) (maxSteps := 4000000) only [go_sem]
         first | done | trace_state
        ·simp (decide := true) (implicitDefEqProofs := false) (maxSteps := 4000000) only [go_sem]
         refine hQ2 _ _ ?_
         simp (decide := true) (implicitDefEqProofs := false) (maxSteps := 4000000) only [go_sem]
         refine hI1 _ ⟨i + 1, by omega⟩ (by simp only; omega) ?_
         simp (decide := true) (implicitDefEqProofs := false) (maxSteps := 4000000) only [go_sem, hk1, hsucc]
         first | done | trace_state
       ·have h3'' : ((r.length : Int) == (r0.length : Int)) = false := by rw [beq_eq_false_iff_ne]; omega
        simp (decide := true) (implicitDefEqProofs := false) (maxSteps := 4000000) only [go_sem, ho, hlt, d1, h3, h0, d0, h3'', Nat.mul_one]
        refine pwpC_loopU (A := Unit) [0, 4] (fun _ => [(3, .t (.bool false)), (5, .t (.int .i64 0))]) (fun _ => []) (fun _ => 0) () (by decide) (fun _ => by rfl) ?_ fun Q2 hQ2 _ I2 hI2 => ?_
        ·simp (decide := true) (implicitDefEqProofs := false) (maxSteps := 4000000) only [go_sem]
         first | done | trace_state
        ·simp (decide := true) (implicitDefEqProofs := false) (maxSteps := 4000000) only [go_sem]
         refine hQ2 _ _ ?_
         simp (decide := true) (implicitDefEqProofs := false) (maxSteps := 4000000) only [go_sem]
         refine hI1 _ ⟨i + 1, by omega⟩ (by simp only; omega) ?_
         simp (decide := true) (implicitDefEqProofs := false) (maxSteps := 4000000) only [go_sem, hk1, hsucc]
         first | done | trace_state
      ·rcases hx with ⟨rfl, rfl⟩ | ⟨g, rfl⟩
       ·have h3' : inW 0 2 5 = false := rfl
        simp (decide := true) (implicitDefEqProofs := false) (maxSteps := 4000000) only [go_sem, ho, hlt, d1, h3', Nat.mul_one]
        refine pwpC_loopU (A := Unit) [0, 4] (fun _ => [(3, .t (.bool false)), (5, .t (.int .i64 0))]) (fun _ => []) (fun _ => 0) () (by decide) (fun _ => by rfl) ?_ fun Q2 hQ2 _ I2 hI2 => ?_
        ·simp (decide := true) (implicitDefEqProofs := false) (maxSteps := 4000000) only [go_sem]
         first | done | trace_state
        ·simp (decide := true) (implicitDefEqProofs := false) (maxSteps := 4000000) only [go_sem]
         refine hQ2 _ _ ?_
         simp (decide := true) (implicitDefEqProofs := false) (maxSteps := 4000000) only [go_sem]
         refine hI1 _ ⟨i + 1, by omega⟩ (by simp only; omega) ?_
         simp (decide := true) (implicitDefEqProofs := false) (maxSteps := 4000000) only [go_sem, hk1, hsucc]
         first | done | trace_state
       ·simp (decide := true) (implicitDefEqProofs := false) (maxSteps := 4000000) only [go_sem, ho, hlt, d1, h3, Nat.mul_one]
        refine pwpC_loopU (A := Unit) [0, 4] (fun _ => [(3, .t (.bool false)), (5, .t (.int .i64 0))]) (fun _ => []) (fun _ => 0) () (by decide) (fun _ => by rfl) ?_ fun Q2 hQ2 _ I2 hI2 => ?_
        ·simp (decide := true) (implicitDefEqProofs := false) (maxSteps := 4000000) only [go_sem]
         first | done | trace_state
        ·simp (decide := true) (implicitDefEqProofs := false) (maxSteps := 4000000) only [go_sem]
         refine hQ2 _ _ ?_
         simp (decide := true) (implicitDefEqProofs := false) (maxSteps := 4000000) only [go_sem]
         refine hI1 _ ⟨i + 1, by omega⟩ (by simp only; omega) ?_
         simp (decide := true) (implicitDefEqProofs := false) (maxSteps := 4000000) only [go_sem, hk1, hsucc]
         first | done | trace_state
     ·have h23 := h2
      simp only [Bool.and_eq_true] at h23
      obtain ⟨h3, h4⟩ := h23
      have hb3 := inW_iff.1 h3
      obtain ⟨g, rfl⟩ : ∃ g, t = .sl (r.map .str) r.length g := by
       rcases hx with ⟨_, rfl⟩ | ⟨g, e⟩
       ·simp at hb3
       ·exact ⟨g, e⟩
      have hrr : r.length = r0.length := by simpa using h4
      obtain ⟨g0, rfl⟩ : ∃ g, t0 = .sl (r0.map .str) r0.length g := by
       rcases hx0 with ⟨_, rfl⟩ | ⟨g, e⟩
       ·rw [List.length_nil] at hrr; omega
       ·exact ⟨g, e⟩
      have h3'' : ((r.length : Int) == (r0.length : Int)) = true := by rw [beq_iff_eq]; omega
      simp (decide := true) (implicitDefEqProofs := false) (maxSteps := 4000000) only [go_sem, ho, hlt, d1, h3, h0, d0, h3'', Nat.mul_one]
      refine pwpC_loopU (A := { k : Nat // k ≤ r.length }) [0, 4] (fun k => [(3, .t (.bool (okE r0.length r k.1))), (5, .t (.int .i64 k.1))]) (fun _ => []) (fun k => r.length - k.1) ⟨0, by omega⟩ (by decide) (fun _ => by rfl) ?_ fun Q2 hQ2 ⟨k, hk⟩ I2 hI2 => ?_
      ·have e : okE r0.length r 0 = true := by unfold okE; rw [h2]; rfl
       simp (decide := true) (implicitDefEqProofs := false) (maxSteps := 4000000) only [go_sem, e]
       first | done | trace_state
      ·rcases Bool.eq_false_or_eq_true (okE r0.length r k) with hok | hok
       rotate_left
       ·have e := okE_bad hok
        rw [e] at hsucc
        simp (decide := true) (implicitDefEqProofs := false) (maxSteps := 4000000) only [go_sem, hok]
        refine hQ2 _ _ ?_
        simp (decide := true) (implicitDefEqProofs := false) (maxSteps := 4000000) only [go_sem]
        refine hI1 _ ⟨i + 1, by omega⟩ (by simp only; omega) ?_
        simp (decide := true) (implicitDefEqProofs := false) (maxSteps := 4000000) only [go_sem, hk1, hsucc, hok]
        first | done | trace_state
       ·by_cases hlt2 : (k : Int) < r.length
        ·obtain ⟨x, hx⟩ : ∃ x, r[k]? = some x := ⟨_, List.getElem?_eq_getElem (by omega)⟩
         have dx := txs_at hx
         have hk2 : IntKind.i64.wrap ((k : Int) + 1) = ((k + 1 : Nat) : Int) := by rw [wrap_in (by omega) (by omega)]; omega
         have hes := okE_succ (w := r0.length) hx
         rw [hok, Bool.true_and] at hes
         simp (decide := true) (implicitDefEqProofs := false) (maxSteps := 4000000) only [go_sem, hok, hlt, d1, hlt2, dx, Nat.mul_one]
         refine hI2 _ ⟨k + 1, by omega⟩ (by simp only; omega) ?_
         simp (decide := true) (implicitDefEqProofs := false) (maxSteps := 4000000) only [go_sem, hk2, hes]
         first | done | trace_state
        ·have hke : k = r.length := by omega
         subst hke
         have e := okE_all r0.length r (Nat.le_refl _)
         rw [hok] at e
         rw [← e] at hsucc
         simp (decide := true) (implicitDefEqProofs := false) (maxSteps := 4000000) only [go_sem, hok, hlt, d1, hlt2, Nat.mul_one]
         refine hQ2 _ _ ?_
         simp (decide := true) (implicitDefEqProofs := false) (maxSteps := 4000000) only [go_sem]
         refine hI1 _ ⟨i + 1, by omega⟩ (by simp only; omega) ?_
         simp (decide := true) (implicitDefEqProofs := false) (maxSteps := 4000000) only [go_sem, hk1, hsucc, hok]
         first | done | trace_state
    ·have hie : i = p.length := by omega
     subst hie
     have hp : preB p = true := by rw [← okR_all p (Nat.le_refl _)]; exact ho
     have hv := hval hp
     simp (decide := true) (implicitDefEqProofs := false) (maxSteps := 4000000) only [go_sem, ho, hlt]
     refine hQ1 _ _ ?_
     rcases lostT_len L with ⟨h5, e⟩ | ⟨h5, e⟩
     ·have hd : decide (L.length ≤ 5) = true := by rw [decide_eq_true_eq]; omega
      rw [hd] at hv
      simp (decide := true) (implicitDefEqProofs := false) (maxSteps := 4000000) only [go_sem, ho, hp, e, hv]
      first | done | trace_state
     ·by_cases h6 : L.length ≤ 5
      ·have h7 : ¬ (L.length : Int) > 5 := by omega
       rw [decide_eq_true h6] at hv
       simp (decide := true) (implicitDefEqProofs := false) (maxSteps := 4000000) only [go_sem, ho, hp, e, hv, h7]
       first | done | trace_state
      ·have h7 : (L.length : Int) > 5 := by omega
       rw [decide_eq_false h6] at hv
       simp (decide := true) (implicitDefEqProofs := false) (maxSteps := 4000000) only [go_sem, ho, hp, e, hv, h7]
       first | done | trace_state
end Go.Proofs.YtdkboibnokipaaaDoor
