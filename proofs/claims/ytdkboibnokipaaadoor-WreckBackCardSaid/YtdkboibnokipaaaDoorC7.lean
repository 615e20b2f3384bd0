/- What the claim leans on, text 7. -/
import Derived.Test.YtdkboibnokipaaaDoorTie
import Derived.Test.YtdkboibnokipaaaDoorCards
import Derived.LaidMore
import Derived.SevenTiedAt
import Derived.OpenShut
import Derived.Lay
import Derived.Test.YtdkboibnokipaaaDoorC6
set_option linter.unusedSimpArgs false
set_option linter.unusedVariables false

/- Part WA4. -/
namespace Go.Proofs.YtdkboibnokipaaaDoor
open Go.RowKit Go.Pm Go.Ow
set_option maxRecDepth 100000
set_option linter.unusedVariables false
set_option maxHeartbeats 8000000
theorem cut_mem_le {c : UInt8} : ∀ {l x : List UInt8}, x ∈ cutL c l → x.length ≤ l.length
 | [], x, h => by
  unfold cutL at h
  rw [List.mem_singleton] at h
  rw [h]; exact Nat.le_refl _
 | b :: l, x, h => by
  unfold cutL at h
  split at h
  ·rcases List.mem_cons.1 h with e | h
   ·rw [e]; exact Nat.zero_le _
   ·have := cut_mem_le h
    rw [List.length_cons]; omega
  ·cases hc : cutL c l with
   | nil => exact absurd hc (cutL_ne c l)
   | cons y r =>
    rw [hc] at h
    rcases List.mem_cons.1 h with e | h
    ·have := cut_mem_le (c := c) (l := l) (x := y) (by rw [hc]; exact List.mem_cons_self)
     rw [e, List.length_cons, List.length_cons]; omega
    ·have := cut_mem_le (c := c) (l := l) (x := x) (by rw [hc]; exact List.mem_cons_of_mem _ h)
     rw [List.length_cons]; omega
theorem cut_len_le (c : UInt8) : ∀ l : List UInt8, (cutL c l).length ≤ l.length + 1
 | [] => by unfold cutL; simp
 | b :: l => by
  have ih := cut_len_le c l
  unfold cutL
  split
  ·rw [List.length_cons, List.length_cons]; omega
  ·cases hc : cutL c l with
   | nil => simp
   | cons y r =>
    rw [hc] at ih
    simp only [List.length_cons] at ih ⊢
    omega
def baL (l : List UInt8) : ByteArray := ⟨l.toArray⟩
def cutS (s : ByteArray) (c : UInt8) (k : Nat) : List ByteArray := (cutL c (s.data.toList.take k)).map baL
theorem cutS_len (s : ByteArray) (c : UInt8) (k : Nat) : (cutS s c k).length ≤ k + 1 := by
 have := cut_len_le c (s.data.toList.take k)
 unfold cutS
 rw [List.length_map]
 have h2 : (s.data.toList.take k).length ≤ k := by rw [List.length_take]; omega
 omega
theorem cutS_all (s : ByteArray) (c : UInt8) : cutS s c s.size = pcs s c := by
 apply map_ba
 rw [pcs_cut]
 unfold cutS
 rw [List.map_map, List.take_of_length_le (by rw [bytes_len]; exact Nat.le_refl _)]
 have : (fun x : ByteArray => x.data.toList) ∘ baL = id := rfl
 rw [this, List.map_id]
theorem cutS_c {s : ByteArray} {c : UInt8} {k : Nat} (h : s.data.toList[k]? = some c) : cutS s c (k + 1) = cutS s c k ++ [⟨#[]⟩] := by
 unfold cutS
 rw [List.take_add_one, h, Option.toList_some, cut_snoc_c, List.map_append]; rfl
theorem cutS_b {s : ByteArray} {c b : UInt8} {k : Nat} (h : s.data.toList[k]? = some b) (hb : b ≠ c) : ∃ Y x, cutS s c k = Y ++ [x] ∧ cutS s c (k + 1) = Y ++ [x ++ ⟨#[b]⟩] ∧ x.size ≤ k := by
 obtain ⟨x, h1, h2⟩ := cut_snoc hb (s.data.toList.take k)
 obtain ⟨Y0, h3⟩ := List.getLast?_eq_some_iff.1 h1
 refine ⟨Y0.map baL, baL x, ?_, ?_, ?_⟩
 ·unfold cutS
  rw [h3, List.map_append, List.map_singleton]
 ·unfold cutS
  rw [List.take_add_one, h, Option.toList_some, h2, h3, List.dropLast_concat, List.map_append]
  congr 1
 ·have hm : x ∈ cutL c (s.data.toList.take k) := by rw [h3]; simp
  have := cut_mem_le hm
  have h4 : (s.data.toList.take k).length ≤ k := by rw [List.length_take]; omega
  show x.toArray.size ≤ k
  rw [List.size_toArray]; omega
theorem idsG_ts (cs : List TV) : (cs.map PV.t).flatMap idsG = [] := by
 induction cs with
 | nil => rfl
 | cons c cs ih => rw [List.map_cons, List.flatMap_cons, ih]; rfl
theorem allO_ts (cs : List TV) : allO ((cs.map PV.t).map PV.toT) = some cs := by
 induction cs with
 | nil => rfl
 | cons c cs ih => simp only [List.map_cons, allO, PV.toT, ih, Option.map_some]
theorem thawA_ts {h : Hp} (cs : List TV) : allO ((cs.map PV.t).map (thawC h)) = some cs := by
 induction cs with
 | nil => rfl
 | cons c cs ih => simp only [List.map_cons, allO, thawC, PV.toT, ih, Option.map_some]
noncomputable def spSp : Pm.Spec := { noSpec with mu := fun t => t == 41 }
theorem spSp_ok : SpecOk Tryd.prog spSp := ⟨noSpec_ok.1, noSpec_ok.2⟩
section
variable (g : FuncId) (xs : List TV) (ps : List PV) (hl : List PO) (Y : YS) (t : TypeId)
@[go_sem] theorem spSp_p : spSp.p g xs = none := rfl
@[go_sem] theorem spSp_h : spSp.h g ps hl = none := rfl
@[go_sem] theorem spSp_y : spSp.y Y g ps hl = none := rfl
@[go_sem] theorem spSp_pn : spSp.pn g ps hl = none := rfl
@[go_sem] theorem spSp_fz : spSp.fz g = false := rfl
@[go_sem] theorem spSp_fr : spSp.fr g = false := rfl
@[go_sem] theorem spSp_yf : spSp.yf g = false := rfl
@[go_sem] theorem spSp_gd : spSp.gd = false := rfl
@[go_sem] theorem spSp_nf : spSp.nf t = false := rfl
@[go_sem] theorem spSp_mu : spSp.mu t = (t == 41) := rfl
end
def splT (s : ByteArray) (c : UInt8) : TV := .sl ((pcs s c).map .str) (pcs s c).length false
theorem rSplit_c (s : ByteArray) (c : UInt8) (h : s.size ≤ 65536) : PCalls Tryd.prog 67 [.str s, .int .u8 (c.toNat : Int)] (splT s c) := by
 have hlen := bytes_len s
 obtain ⟨R, hR⟩ : ∃ R, splT s c = R := ⟨_, rfl⟩
 rw [hR]
 refine pcalls_by Tryd.mixes spSp_ok (fn := Tryd.f67) Tryd.func67 rfl (by kernel_rfl) (by show 2 ≤ _; decide) ?_
 simp (decide := true) (implicitDefEqProofs := false) (maxSteps := 4000000) only [go_sem, Tryd.f67]
 refine pwpC_loopU (A := { k : Nat // k ≤ s.size }) [0, 1] (fun k => [(6, .t (.int .i64 k.1)), (5, .gsl 0 k.1 1 0 (cutS s c k.1).length false)]) (fun k => [(0, .grow k.1 (((cutS s c k.1).map TV.str).map .t) 9 1)]) (fun k => s.size - k.1) ⟨0, Nat.zero_le _⟩ (by decide) (fun _ => by rfl) ?_ fun Q1 hQ1 ⟨k, hk⟩ I1 hI1 => ?_
 ·have h0 : cutS s c 0 = [⟨#[]⟩] := rfl
  simp (decide := true) (implicitDefEqProofs := false) (maxSteps := 4000000) only [go_sem, h0]
  first | done | trace_state
 ·obtain ⟨C, hC⟩ : ∃ C, cutS s c k = C := ⟨_, rfl⟩
  by_cases hlt : (k : Int) < s.size
  ·obtain ⟨x, hx⟩ : ∃ x, s.data.toList[k]? = some x := ⟨_, List.getElem?_eq_getElem (by omega)⟩
   have hg : s.data.getD k 0 = x := by
    have : s.data[k]? = some x := by rw [← Array.getElem?_toList]; exact hx
    simp [this]
   have hk1 : IntKind.i64.wrap ((k : Int) + 1) = ((k + 1 : Nat) : Int) := by rw [wrap_in (by omega) (by omega)]; omega
   have hl := cutS_len s c k
   rw [hC] at hl
   by_cases e : x = c
   ·subst e
    have c1 : ((x.toNat : Int) == (x.toNat : Int)) = true := by simp
    have hs := cutS_c hx
    rw [hC] at hs
    obtain ⟨D, hD⟩ : ∃ D, cutS s x (k + 1) = D := ⟨_, rfl⟩
    rw [hD] at hs
    have hDl : D.length = C.length + 1 := by rw [hs]; simp
    have happ : (C.map TV.str).map PV.t ++ [.t (.str ⟨#[]⟩)] = (D.map TV.str).map PV.t := by rw [hs]; simp
    have hcl : ((C.map TV.str).map PV.t).length = C.length := by rw [List.length_map, List.length_map]
    have hro : (C.length + 1) * 16 ≤ 140737488355328 := by omega
    have hcw := fun l => cellsW_ts l (D.map TV.str)
    have hau := fun e => all_ts e (D.map TV.str)
    simp (decide := true) (implicitDefEqProofs := false) (maxSteps := 4000000) only [go_sem, hlt, hg, c1, hC, hcl, hro, happ, Nat.mul_one]
    refine hI1 _ ⟨k + 1, by omega⟩ (by simp only; omega) ?_
    simp (decide := true) (implicitDefEqProofs := false) (maxSteps := 4000000) only [go_sem, hk1, hD, hDl, hcw, hau]
    first | done | trace_state
   ·have c1 : ((x.toNat : Int) == (c.toNat : Int)) = false := by
     rw [beq_eq_false_iff_ne]
     exact fun h => e (UInt8.toNat_inj.1 (by omega))
    obtain ⟨Y, y, hY, hs, hys⟩ := cutS_b hx e
    rw [hC] at hY
    obtain ⟨D, hD⟩ : ∃ D, cutS s c (k + 1) = D := ⟨_, rfl⟩
    rw [hD] at hs
    have hDl : D.length = Y.length + 1 := by rw [hs]; simp
    have hCl : C.length = Y.length + 1 := by rw [hY]; simp
    obtain ⟨Z, hZ⟩ : ∃ Z, (C.map TV.str).map PV.t = Z := ⟨_, rfl⟩
    have hZl : Z.length = Y.length + 1 := by rw [← hZ, List.length_map, List.length_map, hCl]
    have hZd : Z.drop Y.length = [.t (.str y)] := by rw [← hZ, hY]; simp
    have hZg : Z[Y.length]? = some (.t (.str y)) := by rw [← hZ, hY]; simp
    have hZt : Z.take Y.length ++ [.t (.str (y ++ strOfNums [(x.toNat : Int)]))] = (D.map TV.str).map PV.t := by
     have : strOfNums [(x.toNat : Int)] = ⟨#[x]⟩ := by unfold strOfNums; simp
     rw [this, ← hZ, hY, hs]; simp
    have hw1 : IntKind.i64.wrap (((Y.length + 1 : Nat) : Int) - 1) = (Y.length : Int) := by rw [wrap_in (by omega) (by omega)]; omega
    have hw2 : (Y.length : Int) < ((Y.length + 1 : Nat) : Int) := by omega
    have hw3 : (Y.length : Int) ≤ ((Y.length + 1 : Nat) : Int) := by omega
    have hnn : ¬ Y.length + 1 = Y.length := by omega
    have hys2 : y.size + (strOfNums [(x.toNat : Int)]).size ≤ 4294967296 := by
     have : (strOfNums [(x.toNat : Int)]).size = 1 := rfl
     rw [this]; omega
    have hcw := fun l => cellsW_ts l (D.map TV.str)
    have hau := fun e => all_ts e (D.map TV.str)
    simp (decide := true) (implicitDefEqProofs := false) (maxSteps := 4000000) only [go_sem, hlt, hg, c1, hC, hCl, hZ, sliceG, Option.isSome_some, Option.isSome_none, hZl, hZd, hZg, hw1, hw2, hw3, hys2, hZt, hnn, Nat.mul_one]
    refine hI1 _ ⟨k + 1, by omega⟩ (by simp only; omega) ?_
    simp (decide := true) (implicitDefEqProofs := false) (maxSteps := 4000000) only [go_sem, hk1, hD, hDl, hcw, hau]
    first | done | trace_state
  ·have hke : k = s.size := by omega
   subst hke
   have hall := cutS_all s c
   rw [hC] at hall
   have hcl : ((C.map TV.str).map PV.t).length = C.length := by rw [List.length_map, List.length_map]
   unfold splT at hR
   rw [← hall] at hR
   have hcw := fun l => cellsW_ts l (C.map TV.str)
   have hau := fun e => all_ts e (C.map TV.str)
   have hid := idsG_ts (C.map TV.str)
   have hth : ∀ h : Hp, allO (((C.map TV.str).map PV.t).map (thawC h)) = some (C.map TV.str) := fun h => thawA_ts (C.map TV.str)
   have htk2 : (C.map TV.str).take C.length = C.map TV.str := List.take_of_length_le (by rw [List.length_map]; exact Nat.le_refl _)
   have hcl2 : (C.map TV.str).length = C.length := List.length_map _
   have htk : ((C.map TV.str).map PV.t).take C.length = (C.map TV.str).map PV.t := List.take_of_length_le (by omega)
   have hao := allO_ts (C.map TV.str)
   simp (decide := true) (implicitDefEqProofs := false) (maxSteps := 4000000) only [go_sem, hlt, hC]
   refine hQ1 _ _ ?_
   simp (decide := true) (implicitDefEqProofs := false) (maxSteps := 4000000) only [go_sem, hC, hcl, ← hR, hcw, hau, hid, hao, hth, htk, htk2, hcl2, thawA, freezeW, freezeO, closedG, seenF, wr, upo, List.foldl_nil, List.foldl_cons, List.drop_zero, Nat.zero_add, Nat.mul_one]
   first | done | trace_state
end Go.Proofs.YtdkboibnokipaaaDoor

/- Part WA5. -/
namespace Go.Proofs.YtdkboibnokipaaaDoor
open Go.RowKit Go.Pm Go.Ow
set_option maxRecDepth 100000
set_option linter.unusedVariables false
set_option maxHeartbeats 8000000
theorem baL_app (l : List UInt8) (x : ByteArray) : baL l ++ x = baL (l ++ x.data.toList) := by
 apply ba_ext
 rw [ByteArray.data_append, Array.toList_append]; rfl
theorem baL_size (l : List UInt8) : (baL l).size = l.length := List.size_toArray
def joinR (r : List ByteArray) (k : Nat) : List UInt8 := Lib.join ((r.take k).map (·.data.toList)) [32]
theorem join_end (c : UInt8) {L : List (List UInt8)} (h : L ≠ []) (x : List UInt8) : Lib.join (L ++ [x]) [c] = Lib.join L [c] ++ [c] ++ x := by
 cases L with
 | nil => exact absurd rfl h
 | cons a L =>
  rw [List.cons_append, Lib.join_cons, Lib.join_cons]
  unfold Lib.joinTail
  simp
theorem joinR_succ {r : List ByteArray} {k : Nat} {x : ByteArray} (hx : r[k]? = some x) : joinR r (k + 1) = joinR r k ++ (if 0 < k then [32] else []) ++ x.data.toList := by
 unfold joinR
 rw [List.take_add_one, hx, Option.toList_some, List.map_append, List.map_singleton]
 by_cases h : 0 < k
 ·rw [if_pos h, join_end]
  have := (List.getElem?_eq_some_iff.1 hx).1
  intro e
  have e := congrArg List.length e
  rw [List.length_map, List.length_take, List.length_nil] at e
  omega
 ·have : k = 0 := by omega
  subst this
  rw [if_neg h]
  simp [Lib.join_one, Lib.join_nil]
theorem joinR_le {r : List ByteArray} (h : ∀ x ∈ r, x.size ≤ 5) (h5 : r.length ≤ 5) (k : Nat) : (joinR r k).length ≤ 30 := by
 have := join_len ((r.take k).map (·.data.toList)) 5 (fun x hx => by
  obtain ⟨y, hy, rfl⟩ := List.mem_map.1 hx
  rw [bytes_len]; exact h y (List.mem_of_mem_take hy))
 rw [List.length_map, List.length_take] at this
 unfold joinR
 omega
theorem rPrint_c {s : TV} {p : Pg} (hs : pgR s p) (hb : p.length ≤ 140737488355328) (hb2 : ∀ r ∈ p, r.length ≤ 140737488355328) : PCalls Tryd.prog 23 [s] (prtT p) := by
 have hC := rCheckPage_c hs hb hb2
 by_cases hv : validB p = true
 rotate_left
 ·have hvf : validB p = false := by simpa using hv
  have e : prtT p = .tup [.str ⟨#[]⟩, .int .i64 90] := by unfold prtT; rw [if_neg hv]
  rw [hvf] at hC
  rw [e]
  refine pcalls_by Tryd.mixes (Spec.gdt_ok (Spec.one_ok (oneP_ok hC) noSpec_ok)) (fn := Tryd.f23) Tryd.func23 rfl (by kernel_rfl) (by show 1 ≤ _; decide) ?_
  simp (decide := true) (implicitDefEqProofs := false) (maxSteps := 4000000) only [go_sem, Tryd.f23]
  first | done | trace_state
 ·have e : prtT p = .tup [.str (baL (textP p)), .int .i64 0] := by unfold prtT; rw [if_pos hv]; rfl
  rw [hv] at hC
  rw [e]
  have hok := (valid_iff.1 hv).1
  obtain ⟨rs, f, rfl, hrl, hrs⟩ := page_rows2 hs hok
  have hpl := hok.1
  have h31 := fun k hk => textP_31 hv (k := k) hk
  refine pcalls_by Tryd.mixes (Spec.gdt_ok (Spec.one_ok (oneP_ok hC) noSpec_ok)) (fn := Tryd.f23) Tryd.func23 rfl (by kernel_rfl) (by show 1 ≤ _; decide) ?_
  simp (decide := true) (implicitDefEqProofs := false) (maxSteps := 4000000) only [go_sem, Tryd.f23]
  refine pwpC_loopU (A := { i : Nat // i ≤ p.length }) [0] (fun i => [(6, .t (.int .i64 i.1)), (5, .t (.str (baL (textP (p.take i.1)))))]) (fun _ => []) (fun i => p.length - i.1) ⟨0, Nat.zero_le _⟩ (by decide) (fun _ => by rfl) ?_ fun Q1 hQ1 ⟨i, hi⟩ I1 hI1 => ?_
  ·have h0 : baL (textP []) = ⟨#[]⟩ := rfl
   simp (decide := true) (implicitDefEqProofs := false) (maxSteps := 4000000) only [go_sem, h0, List.take_zero]
   first | done | trace_state
  ·by_cases hlt : (i : Int) < p.length
   ·obtain ⟨r, hr⟩ : ∃ r, p[i]? = some r := ⟨_, List.getElem?_eq_getElem (by omega)⟩
    obtain ⟨t, ht⟩ : ∃ t, rs[i]? = some t := ⟨_, List.getElem?_eq_getElem (by omega)⟩
    obtain ⟨g, rfl⟩ := hrs i r t hr ht
    have d1 := tv_at ht
    have hvr := valid_row hv hr
    have hk1 : IntKind.i64.wrap ((i : Int) + 1) = ((i + 1 : Nat) : Int) := by rw [wrap_in (by omega) (by omega)]; omega
    have hT := h31 i (by omega)
    obtain ⟨T, hTe⟩ : ∃ T, textP (p.take i) = T := ⟨_, rfl⟩
    rw [hTe] at hT
    have hjl := joinR_le (r := r) (fun x hx => (entB_size (hvr.2.2 x hx)).2) hvr.1.2
    have hsn := textP_snoc hr
    rw [hTe] at hsn
    simp (decide := true) (implicitDefEqProofs := false) (maxSteps := 4000000) only [go_sem, hlt, hTe]
    refine pwpC_loopU (A := { k : Nat // k ≤ r.length }) [0, 6] (fun k => [(7, .t (.int .i64 k.1)), (5, .t (.str (baL (T ++ joinR r k.1))))]) (fun _ => []) (fun k => r.length - k.1) ⟨0, by omega⟩ (by decide) (fun _ => by rfl) ?_ fun Q2 hQ2 ⟨k, hk⟩ I2 hI2 => ?_
    ·have h0 : joinR r 0 = [] := rfl
     simp (decide := true) (implicitDefEqProofs := false) (maxSteps := 4000000) only [go_sem, h0, List.append_nil]
     first | done | trace_state
    ·by_cases hlt2 : (k : Int) < r.length
     ·obtain ⟨x, hx⟩ : ∃ x, r[k]? = some x := ⟨_, List.getElem?_eq_getElem (by omega)⟩
      have dx := txs_at hx
      have hk2 : IntKind.i64.wrap ((k : Int) + 1) = ((k + 1 : Nat) : Int) := by rw [wrap_in (by omega) (by omega)]; omega
      have hxs := (entB_size (hvr.2.2 x (List.mem_of_getElem? hx))).2
      have hj := hjl k
      have hsu := joinR_succ hx
      have hz0 : (baL (T ++ joinR r k)).size ≤ 200 := by rw [baL_size, List.length_append]; omega
      by_cases hk0 : (k : Int) > 0
      ·rw [if_pos (by omega)] at hsu
       have hz1 : (baL (T ++ joinR r k)).size ≤ 4294967295 := by omega
       have ha1 : baL (T ++ joinR r k) ++ ⟨#[32]⟩ = baL (T ++ joinR r k ++ [32]) := baL_app _ _
       have hz2 : (baL (T ++ joinR r k ++ [32])).size + x.size ≤ 4294967296 := by
        rw [baL_size, List.length_append] at *
        simp only [List.length_append, List.length_cons, List.length_nil] at *; omega
       have ha2 : baL (T ++ joinR r k ++ [32]) ++ x = baL (T ++ joinR r (k + 1)) := by
        rw [baL_app, hsu]; simp only [List.append_assoc]
       simp (decide := true) (implicitDefEqProofs := false) (maxSteps := 4000000) only [go_sem, hlt, d1, hlt2, dx, hk0, hz1, ha1, hz2, ha2, Nat.mul_one]
       refine hI2 _ ⟨k + 1, by omega⟩ (by simp only; omega) ?_
       simp (decide := true) (implicitDefEqProofs := false) (maxSteps := 4000000) only [go_sem, hk2]
       first | done | trace_state
      ·rw [if_neg (by omega), List.append_nil] at hsu
       have hz2 : (baL (T ++ joinR r k)).size + x.size ≤ 4294967296 := by omega
       have ha2 : baL (T ++ joinR r k) ++ x = baL (T ++ joinR r (k + 1)) := by
        rw [baL_app, hsu]; simp only [List.append_assoc]
       simp (decide := true) (implicitDefEqProofs := false) (maxSteps := 4000000) only [go_sem, hlt, d1, hlt2, dx, hk0, hz2, ha2, Nat.mul_one]
       refine hI2 _ ⟨k + 1, by omega⟩ (by simp only; omega) ?_
       simp (decide := true) (implicitDefEqProofs := false) (maxSteps := 4000000) only [go_sem, hk2]
       first | done | trace_state
     ·have hke : k = r.length := by omega
      subst hke
      have hj := hjl r.length
      have hz1 : (baL (T ++ joinR r r.length)).size ≤ 4294967295 := by
       rw [baL_size, List.length_append]; omega
      have ha1 : baL (T ++ joinR r r.length) ++ ⟨#[10]⟩ = baL (textP (p.take (i + 1))) := by
       rw [baL_app, hsn]
       unfold joinR rowT
       rw [List.take_length, List.append_assoc]
      simp (decide := true) (implicitDefEqProofs := false) (maxSteps := 4000000) only [go_sem, hlt, d1, hlt2, Nat.mul_one]
      refine hQ2 _ _ ?_
      simp (decide := true) (implicitDefEqProofs := false) (maxSteps := 4000000) only [go_sem, hz1, ha1]
      refine hI1 _ ⟨i + 1, by omega⟩ (by simp only; omega) ?_
      simp (decide := true) (implicitDefEqProofs := false) (maxSteps := 4000000) only [go_sem, hk1]
      first | done | trace_state
   ·have hie : i = p.length := by omega
    subst hie
    have htk : p.take p.length = p := List.take_length
    simp (decide := true) (implicitDefEqProofs := false) (maxSteps := 4000000) only [go_sem, hlt]
    refine hQ1 _ _ ?_
    simp (decide := true) (implicitDefEqProofs := false) (maxSteps := 4000000) only [go_sem, htk]
    first | done | trace_state
def qP (s : ByteArray) : Pg := (pcs s 10).dropLast.map fun l => pcs l 32
theorem qP_lines {s : ByteArray} (h : Lib.hasSuffix s.data.toList [10] = true) : qP s = linesP s := by
 obtain ⟨t, ht⟩ := suf_of h
 have hb : (bodyT s).data.toList = t := by
  show Lib.trimSuffix s.data.toList [10] = t
  rw [ht, trim_app]
 unfold qP linesP
 congr 1
 apply map_ba
 rw [pcs_cut, hb, List.map_dropLast, pcs_cut, ht, cut_snoc_c, List.dropLast_concat]
theorem par_iff {s : ByteArray} (h : s.size ≤ 65536) : parE s = 0 ↔ validB (qP s) = true ∧ baL (textP (qP s)) = s := by
 constructor
 ·intro e
  obtain ⟨_, h2, _, h4⟩ := parE_0 e
  have hq := qP_lines h2
  rw [hq]
  exact ⟨h4, ba_ext (text_lines h2)⟩
 ·rintro ⟨h1, h2⟩
  have hsuf : Lib.hasSuffix s.data.toList [10] = true := by
   rw [← h2]; exact suf_text (valid_ne h1)
  have hq := qP_lines hsuf
  rw [hq] at h1
  unfold parE
  rw [if_pos h, if_pos ⟨hsuf, (valid_len h1).1.2, h1⟩]
theorem par_big {s : ByteArray} (h : s.size ≤ 65536) (h2 : ¬ s.size ≤ 200) : parE s = 5 := by
 unfold parE
 rw [if_pos h, if_neg]
 rintro ⟨h3, _, h5⟩
 have := text_155 h5
 rw [text_lines h3, bytes_len] at this
 omega
theorem parE_or {s : ByteArray} (h : s.size ≤ 65536) : parE s = 0 ∨ parE s = 5 := by
 unfold parE
 rw [if_pos h]
 split
 ·exact .inl rfl
 ·exact .inr rfl
def parF (s : ByteArray) : TV := .tup [if parE s = 0 then pgF (linesP s) else .nilSl, .int .i64 (parE s)]
noncomputable def rfSplit : List TV → Option TV
 | [.str s, .int .u8 n] => if s.size ≤ 65536 ∧ 0 ≤ n ∧ n ≤ 255 then some (splT s (UInt8.ofNat n.toNat)) else none
 | _ => none
theorem rfSplit_ok : ∀ xs r, rfSplit xs = some r → PCalls Tryd.prog 67 xs r := by
 intro xs r h
 unfold rfSplit at h
 split at h
 ·rename_i s n
  split at h
  ·rename_i hc
   cases h
   have := rSplit_c s (UInt8.ofNat n.toNat) hc.1
   have e : (((UInt8.ofNat n.toNat).toNat : Nat) : Int) = n := by
    have : (UInt8.ofNat n.toNat).toNat = n.toNat % 256 := by simp
    rw [this]; omega
   rw [e] at this
   exact this
  ·cases h
 ·cases h
attribute [go_sem] rfSplit
end Go.Proofs.YtdkboibnokipaaaDoor

/- Part WA6. -/
namespace Go.Proofs.YtdkboibnokipaaaDoor
open Go.RowKit Go.Pm Go.Ow
set_option maxRecDepth 100000
set_option linter.unusedVariables false
set_option maxHeartbeats 8000000
def pgN (p : Pg) : TV := if p.length = 0 then .nilSl else pgF p
theorem pgN_R (p : Pg) : pgR (pgN p) p := by
 unfold pgN
 by_cases h : p.length = 0
 ·rw [if_pos h]; exact .inl ⟨rfl, List.length_eq_zero_iff.1 h⟩
 ·rw [if_neg h]; exact pgF_R p
noncomputable def spPr (X T : TV) : Pm.Spec := (noSpec.one 67 rfSplit).one 23 (oneP [X] T)
theorem spPr_ok {X T : TV} (h : PCalls Tryd.prog 23 [X] T) : SpecOk Tryd.prog (spPr X T) := Spec.one_ok (oneP_ok h) (Spec.one_ok rfSplit_ok noSpec_ok)
theorem split_10 (s : ByteArray) : splT s (UInt8.ofNat 10) = splT s 10 := rfl
theorem split_32 (s : ByteArray) : splT s (UInt8.ofNat 32) = splT s 32 := rfl
theorem pcs_le2 {s x : ByteArray} {c : UInt8} (h : x ∈ pcs s c) : x.size ≤ s.size := pcs_le h
theorem rParse_c (s : ByteArray) : PCalls Tryd.prog 25 [.str s] (parF s) := by
 obtain ⟨R, hR⟩ : ∃ R, parF s = R := ⟨_, rfl⟩
 rw [hR]
 unfold parF at hR
 by_cases h1 : (s.size : Int) > 65536
 ·have e : parE s = 2 := by unfold parE; rw [if_neg (by omega)]
  rw [e, if_neg (by decide)] at hR
  refine pcalls_by Tryd.mixes (spPr_ok (rPrint_c (pgN_R []) (by simp) (by simp))) (fn := Tryd.f25) Tryd.func25 rfl (by kernel_rfl) (by show 1 ≤ _; decide) ?_
  simp (decide := true) (implicitDefEqProofs := false) (maxSteps := 4000000) only [go_sem, Tryd.f25, spPr, h1, hR]
  first | done | trace_state
 ·by_cases h2 : (s.size : Int) ≤ 200
  rotate_left
  ·have e := par_big (s := s) (by omega) (by omega)
   rw [e, if_neg (by decide)] at hR
   have hp : prtT [] = .tup [.str ⟨#[]⟩, .int .i64 90] := rfl
   have hn : pgN [] = .nilSl := rfl
   refine pcalls_by Tryd.mixes (spPr_ok (rPrint_c (pgN_R []) (by simp) (by simp))) (fn := Tryd.f25) Tryd.func25 rfl (by kernel_rfl) (by show 1 ≤ _; decide) ?_
   simp (decide := true) (implicitDefEqProofs := false) (maxSteps := 4000000) only [go_sem, Tryd.f25, spPr, h1, h2, hp, hn, hR]
   first | done | trace_state
  ·have hq : (qP s).length = (pcs s 10).length - 1 := by unfold qP; rw [List.length_map, List.length_dropLast]
   have hpl := pcs_len s 10
   have hcl : (pcs s 10).length ≤ 65537 := by
    have := Lib.countB_le ⟨#[10]⟩ (Nat.le_refl _) s.size s (Nat.le_refl _)
    omega
   obtain ⟨L, hL⟩ : ∃ L, pcs s 10 = L := ⟨_, rfl⟩
   have hsl : splT s 10 = .sl (L.map .str) L.length false := by unfold splT; rw [hL]
   rw [hL] at hq hpl hcl
   obtain ⟨q, hqe⟩ : ∃ q, qP s = q := ⟨_, rfl⟩
   rw [hqe] at hq
   have hqr : ∀ r ∈ q, r.length ≤ 140737488355328 := fun r hr => by
    rw [← hqe] at hr
    unfold qP at hr
    obtain ⟨x, hx, rfl⟩ := List.mem_map.1 hr
    have hx2 := pcs_le2 ((List.dropLast_sublist _).mem hx)
    rw [pcs_len]
    have := Lib.countB_le ⟨#[32]⟩ (Nat.le_refl _) x.size x (Nat.le_refl _)
    omega
   have hat : ∀ (i : Nat) (x : ByteArray), i + 1 < L.length → L[i]? = some x → q.take (i + 1) = q.take i ++ [pcs x 32] ∧ x.size ≤ 65536 := fun i x hi hx => by
    refine ⟨?_, ?_⟩
    ·rw [List.take_add_one]
     congr 1
     rw [← hqe]
     unfold qP
     rw [hL, List.getElem?_map, List.getElem?_dropLast, if_pos (by omega), hx]; rfl
    ·have := pcs_le2 (s := s) (c := 10) (by rw [hL]; exact List.mem_of_getElem? hx)
     omega
   have hpi := par_iff (s := s) (by omega)
   rw [hqe] at hpi
   have hPr := rPrint_c (pgN_R q) (by omega) hqr
   refine pcalls_by Tryd.mixes (spPr_ok hPr) (fn := Tryd.f25) Tryd.func25 rfl (by kernel_rfl) (by show 1 ≤ _; decide) ?_
   have h3 : s.size ≤ 65536 := by omega
   simp (decide := true) (implicitDefEqProofs := false) (maxSteps := 4000000) only [go_sem, Tryd.f25, spPr, h1, h2, h3, split_10, hsl]
   refine pwpC_loopU (A := { i : Nat // i + 1 ≤ L.length }) [0, 5] (fun i => [(6, .t (.int .i64 i.1)), (4, .own ((q.take i.1).map rowF) i.1 0)]) (fun i => [(0, .tok i.1 41)]) (fun i => L.length - i.1) ⟨0, by omega⟩ (by decide) (fun _ => by rfl) ?_ fun Q1 hQ1 ⟨i, hi⟩ I1 hI1 => ?_
   ·simp (decide := true) (implicitDefEqProofs := false) (maxSteps := 4000000) only [go_sem, spPr, List.take_zero, List.map_nil]
    first | done | trace_state
   ·have hk1 : IntKind.i64.wrap ((i : Int) + 1) = ((i + 1 : Nat) : Int) := by rw [wrap_in (by omega) (by omega)]; omega
    by_cases hlt : ((i + 1 : Nat) : Int) < L.length
    ·obtain ⟨x, hx⟩ : ∃ x, L[i]? = some x := ⟨_, List.getElem?_eq_getElem (by omega)⟩
     have dx := txs_at hx
     obtain ⟨htk, hxs⟩ := hat i x (by omega) hx
     have hlt2 : (i : Int) < L.length := by omega
     have hrw : (i + 1) * 24 ≤ 140737488355328 := by omega
     have hll2 : ((q.take i).map rowF).length = i := by rw [List.length_map, List.length_take]; omega
     have hsp : splT x 32 = .sl ((pcs x 32).map .str) (pcs x 32).length false := rfl
     have hrf : rowF (pcs x 32) = .sl ((pcs x 32).map .str) (pcs x 32).length false := rfl
     simp (decide := true) (implicitDefEqProofs := false) (maxSteps := 4000000) only [go_sem, spPr, hk1, hlt, hlt2, dx, hxs, split_32, hsp, hrw, hll2, Nat.mul_one]
     refine hI1 _ ⟨i + 1, by omega⟩ (by simp only; omega) ?_
     simp (decide := true) (implicitDefEqProofs := false) (maxSteps := 4000000) only [go_sem, spPr, hk1, htk, hrf, List.map_append, List.map_cons, List.map_nil]
     first | done | trace_state
    ·have hie : i = q.length := by omega
     subst hie
     have htk : q.take q.length = q := List.take_length
     have hrl : (q.map rowF).length = q.length := List.length_map _
     have hcell : ∀ (e : Bool), e = true ∨ e = false := fun e => by cases e <;> simp
     by_cases hq0 : q.length = 0
     ·have hqn : q = [] := List.length_eq_zero_iff.1 hq0
      subst hqn
      have hp : prtT [] = .tup [.str ⟨#[]⟩, .int .i64 90] := rfl
      have hn : pgN [] = .nilSl := rfl
      have e : parE s = 5 := by
       rcases parE_or (s := s) (by omega) with h | h
       ·have := (hpi.1 h).1; cases this
       ·exact h
      rw [e, if_neg (by decide)] at hR
      have w1 : IntKind.i64.wrap 1 = 1 := rfl
      have hlt1 : ¬ (1 : Int) < L.length := by
       have : ([] : Pg).length = 0 := rfl
       omega
      simp (decide := true) (implicitDefEqProofs := false) (maxSteps := 4000000) only [go_sem, spPr, hk1, hlt, w1, hlt1]
      refine hQ1 _ _ ?_
      simp (decide := true) (implicitDefEqProofs := false) (maxSteps := 4000000) only [go_sem, spPr, hp, hn, hR, List.take_nil, List.map_nil]
      first | done | trace_state
     ·have hn : pgN q = .sl (q.map rowF) q.length false := by unfold pgN pgF; rw [if_neg hq0]
      by_cases hv : validB q = true
      ·have hp : prtT q = .tup [.str (baL (textP q)), .int .i64 0] := by unfold prtT; rw [if_pos hv]; rfl
       have hbs := beqS (baL (textP q)) s
       have hbn := bneS (baL (textP q)) s
       by_cases ht : baL (textP q) = s
       ·have e : parE s = 0 := hpi.2 ⟨hv, ht⟩
        have hqq : q = linesP s := by rw [← hqe]; exact qP_lines (parE_0 e).2.1
        rw [e, if_pos rfl, ← hqq] at hR
        have hR2 : R = .tup [.sl (q.map rowF) q.length false, .int .i64 0] := hR.symm
        rw [decide_eq_true ht] at hbs hbn
        simp (decide := true) (implicitDefEqProofs := false) (maxSteps := 4000000) only [go_sem, spPr, hk1, hlt]
        refine hQ1 _ _ ?_
        simp (decide := true) (implicitDefEqProofs := false) (maxSteps := 4000000) only [go_sem, spPr, htk, hq0, hp, hn, hbs, hbn, hR2]
        first | done | trace_state
       ·have e : parE s = 5 := by
         rcases parE_or (s := s) (by omega) with h | h
         ·exact absurd (hpi.1 h).2 ht
         ·exact h
        rw [e, if_neg (by decide)] at hR
        rw [decide_eq_false ht] at hbs hbn
        simp (decide := true) (implicitDefEqProofs := false) (maxSteps := 4000000) only [go_sem, spPr, hk1, hlt]
        refine hQ1 _ _ ?_
        simp (decide := true) (implicitDefEqProofs := false) (maxSteps := 4000000) only [go_sem, spPr, htk, hq0, hp, hn, hbs, hbn, hR]
        first | done | trace_state
      ·have hp : prtT q = .tup [.str ⟨#[]⟩, .int .i64 90] := by unfold prtT; rw [if_neg hv]
       have e : parE s = 5 := by
        rcases parE_or (s := s) (by omega) with h | h
        ·exact absurd (hpi.1 h).1 hv
        ·exact h
       rw [e, if_neg (by decide)] at hR
       simp (decide := true) (implicitDefEqProofs := false) (maxSteps := 4000000) only [go_sem, spPr, hk1, hlt]
       refine hQ1 _ _ ?_
       simp (decide := true) (implicitDefEqProofs := false) (maxSteps := 4000000) only [go_sem, spPr, htk, hq0, hp, hn, hR]
       first | done | trace_state
end Go.Proofs.YtdkboibnokipaaaDoor

/- Part WA7. -/
namespace Go.Proofs.YtdkboibnokipaaaDoor
open Go.RowKit Go.Pm Go.Ow
set_option maxRecDepth 100000
set_option linter.unusedVariables false
set_option maxHeartbeats 8000000
noncomputable def wkPrintT : List TV → Option TV := onPage prtT
theorem wkPrintT_ok : ∀ a r, wkPrintT a = some r → PCalls Tryd.prog 22 a r := onPage_ok fun s p h => wPrintA_c h
theorem wkPrintT_of {s : TV} {p : List (List ByteArray)} (h : pgR s p) : wkPrintT [s] = some (prtT p) := onPage_of h
noncomputable def wkCheckT : List TV → Option TV := onPage fun p => .int .i64 (if validB p then 0 else 90)
theorem wkCheckT_ok : ∀ a r, wkCheckT a = some r → PCalls Tryd.prog 17 a r := onPage_ok fun s p h => wCheckPage_c h
theorem wkCheckT_of {s : TV} {p : List (List ByteArray)} (h : pgR s p) : wkCheckT [s] = some (.int .i64 (if validB p then 0 else 90)) := onPage_of h
noncomputable def wkParseT : List TV → Option TV
 | [.str s] => some (parT s)
 | _ => none
theorem wkParseT_ok : ∀ xs r, wkParseT xs = some r → PCalls Tryd.prog 24 xs r := by
 intro xs r h
 unfold wkParseT at h
 split at h
 ·cases h; exact wParseA_c _
 ·cases h
attribute [go_sem] wkParseT
def smallP (p : List (List ByteArray)) : Prop := p.length ≤ 140737488355328 ∧ ∀ l ∈ p, l.length ≤ 140737488355328
open Classical in
noncomputable def rSmT : List TV → Option TV
 | [s, t] => if h : ∃ p q, pgR s p ∧ pgR t q ∧ smallP p then some (.bool (decide (Classical.choose h = Classical.choose (Classical.choose_spec h)))) else none
 | _ => none
open Classical in
theorem rSmT_of {s t : TV} {p q : List (List ByteArray)} (h1 : pgR s p) (h2 : pgR t q) (hl : smallP p) : rSmT [s, t] = some (.bool (decide (p = q))) := by
 have h : ∃ p q, pgR s p ∧ pgR t q ∧ smallP p := ⟨p, q, h1, h2, hl⟩
 have hs := Classical.choose_spec (Classical.choose_spec h)
 have e1 := pgR_inj hs.1 h1
 have e2 := pgR_inj hs.2.1 h2
 show (if h : ∃ p q, pgR s p ∧ pgR t q ∧ smallP p then some (TV.bool (decide (Classical.choose h = Classical.choose (Classical.choose_spec h)))) else none) = _
 rw [dif_pos h]
 have : decide (Classical.choose h = Classical.choose (Classical.choose_spec h)) = decide (p = q) := decide_eq_decide.2 ⟨fun e => e1.symm.trans (e.trans e2), fun e => e1.trans (e.trans e2.symm)⟩
 rw [this]
open Classical in
theorem rSmT_ok : ∀ a r, rSmT a = some r → PCalls Tryd.prog 16 a r := by
 intro a r e
 unfold rSmT at e
 split at e
 ·split at e
  ·rename_i h
   cases e
   have hs := Classical.choose_spec (Classical.choose_spec h)
   exact rSamePages_c hs.1 hs.2.1 hs.2.2.1 hs.2.2.2
  ·cases e
 ·cases e
theorem valid_small {p : List (List ByteArray)} (h : validB p = true) : smallP p := ⟨by have := (valid_len h).1; omega, fun l hl => by have := (valid_mem h hl).1; omega⟩
theorem small_nil : smallP [] := ⟨by simp, by simp⟩
end Go.Proofs.YtdkboibnokipaaaDoor

/- Part Wag. -/
namespace Go.Proofs.YtdkboibnokipaaaDoor
open Go.RowKit Go.Pm Go.Ow
set_option maxRecDepth 100000
set_option linter.unusedVariables false
theorem wStr {k : Nat} {cs : List TV} (h : cellsOk Tryd.prog (k + 1) 9 cs) : ∃ s : ByteArray, cs = [.str s] := by
 unfold cellsOk at h
 rw [Tryd.underlying9] at h
 obtain ⟨s, h, _⟩ := h
 exact ⟨s, h⟩
theorem wSlice {k : Nat} {t e : TypeId} {cs : List TV} (hu : Program.underlying Tryd.prog t = some (.slice e)) (h : cellsOk Tryd.prog (k + 1) t cs) : ∃ x, cs = [x] ∧ cellsOk Tryd.prog (k + 1) t [x] := by
 have h' := h
 unfold cellsOk at h'
 rw [hu] at h'
 rcases h' with h' | ⟨rows, full, h', _⟩
 ·exact ⟨_, h', by rw [← h']; exact h⟩
 ·exact ⟨_, h', by rw [← h']; exact h⟩
theorem wTexts {x : TV} {k : Nat} (h : cellsOk Tryd.prog (k + 2) 41 [x]) : ∃ l : List ByteArray, txR x l ∧ l.length ≤ 8796093022208 := by
 obtain ⟨l, h1, h2, h3, _⟩ := cellsOk_row (e := 9) (c := fun s : ByteArray => [TV.str s]) (p := fun _ => True) (by kernel_rfl) (fun cs hc => by obtain ⟨s, rfl⟩ := wStr hc; exact ⟨s, rfl, trivial⟩) h
 rw [show Program.bytesOf Tryd.prog 9 = 16 by kernel_rfl] at h3
 unfold reachBytes at h3
 refine ⟨l, ?_, by omega⟩
 have e : ∀ m : List ByteArray, m.flatMap (fun s => [TV.str s]) = m.map .str := fun m => by induction m with
  | nil => rfl
  | cons a m ih => rw [List.flatMap_cons, ih]; rfl
 rw [e] at h1
 exact h1
end Go.Proofs.YtdkboibnokipaaaDoor

/- Part Wah. -/
namespace Go.Proofs.YtdkboibnokipaaaDoor
open Go.RowKit Go.Pm Go.Ow
set_option maxRecDepth 100000
set_option linter.unusedVariables false
theorem pageArg {x : TV} (h : argOk Tryd.prog 22 x) : ∃ p : List (List ByteArray), pgR x p ∧ p.length ≤ 140737488355328 ∧ ∀ r ∈ p, r.length ≤ 140737488355328 := by
 obtain ⟨l, h1, h2, h3, h4⟩ := cellsOk_row (e := 41) (c := fun y : TV × List ByteArray => [y.1]) (p := fun y => txR y.1 y.2 ∧ y.2.length ≤ 8796093022208) (by kernel_rfl) (fun cs hc => by
  obtain ⟨s, rfl, h5⟩ := wSlice (e := 9) (by kernel_rfl) hc
  obtain ⟨m, hm, lm⟩ := wTexts h5
  exact ⟨(s, m), rfl, hm, lm⟩) (argOk_sl (e := 41) (by kernel_rfl) h)
 rw [show Program.bytesOf Tryd.prog 41 = 24 by kernel_rfl] at h3
 unfold reachBytes at h3
 have hf : ∀ m : List (TV × List ByteArray), m.flatMap (fun y => [y.1]) = m.map (·.1) := fun m => by induction m with
  | nil => rfl
  | cons a m ih => rw [List.flatMap_cons, ih]; rfl
 rw [hf] at h1
 refine ⟨l.map (·.2), ?_, by rw [List.length_map]; omega, fun r hr => ?_⟩
 ·rcases h1 with ⟨e, e2⟩ | ⟨f, e⟩
  ·exact .inl ⟨e, by rw [e2]; rfl⟩
  ·refine .inr ⟨l.map (·.1), f, by rw [List.length_map]; exact e, by rw [List.length_map, List.length_map], fun k r t hr ht => ?_⟩
   rw [List.getElem?_map, Option.map_eq_some_iff] at hr ht
   obtain ⟨a, ha, rfl⟩ := hr
   obtain ⟨b, hb, rfl⟩ := ht
   rw [ha] at hb
   cases hb
   exact (h2 a (List.mem_of_getElem? ha)).1
 ·obtain ⟨a, ha, rfl⟩ := List.mem_map.1 hr
  have := (h2 a ha).2
  omega
theorem textArg {x : TV} (h : argOk Tryd.prog 9 x) : ∃ s : ByteArray, x = .str s := by
 unfold argOk at h
 rw [Tryd.underlying9] at h
 obtain ⟨s, e⟩ := wStr h
 exact ⟨s, (List.cons.inj e).1⟩
end Go.Proofs.YtdkboibnokipaaaDoor

/- Part Wio. -/
namespace Go.Proofs.YtdkboibnokipaaaDoor
open Go.RowKit Go.Pm Go.Ow
set_option maxRecDepth 100000
set_option linter.unusedVariables false

theorem wk_glob {w : World} {l : List (String × DataW Unit)} (hm : ("octant/wreck.kinds", Rows.laid_octant_wreck_kinds) ∈ l) (h : laidMetH Tryd.prog l w) : GlobOk (allF w) := by
 have hf := h.funcs (n := "octant/wreck.kinds") (d := .agg [.iface "func" (.lit (.string [40, 111, 99, 116, 97, 110, 116, 47, 119, 114, 101, 99, 107, 46, 98, 111, 111, 107, 41, 46, 109, 97, 100, 101])), .iface "func" (.lit (.string [40, 111, 99, 116, 97, 110, 116, 47, 119, 114, 101, 99, 107, 46, 98, 111, 111, 107, 41, 46, 109, 101, 110, 100, 101, 100])), .iface "func" (.lit (.string [40, 111, 99, 116, 97, 110, 116, 47, 119, 114, 101, 99, 107, 46, 98, 111, 111, 107, 41, 46, 97, 103, 97, 105, 110])), .iface "func" (.lit (.string [40, 111, 99, 116, 97, 110, 116, 47, 119, 114, 101, 99, 107, 46, 98, 111, 111, 107, 41, 46, 108, 111, 115, 116]))]) hm
 obtain ⟨g, t, cs, fuel, p, hg, ht, hv, hd⟩ := hf
 have hg0 : Tryd.prog.globalNamed "octant/wreck.kinds" = some 0 := by kernel_rfl
 have ht0 : (Tryd.prog.globals[0]?).map (·.type) = some 129 := by kernel_rfl
 obtain rfl := Option.some.inj (hg0.symm.trans hg)
 obtain rfl := Option.some.inj (ht0.symm.trans ht)
 have hd' : DataW.trod (funcToken Tryd.prog) Tryd.prog w 0 (fun _ => true) true fuel 129 cs.toList = some (.agg [.held [40, 111, 99, 116, 97, 110, 116, 47, 119, 114, 101, 99, 107, 46, 98, 111, 111, 107, 41, 46, 109, 97, 100, 101], .held [40, 111, 99, 116, 97, 110, 116, 47, 119, 114, 101, 99, 107, 46, 98, 111, 111, 107, 41, 46, 109, 101, 110, 100, 101, 100], .held [40, 111, 99, 116, 97, 110, 116, 47, 119, 114, 101, 99, 107, 46, 98, 111, 111, 107, 41, 46, 97, 103, 97, 105, 110], .held [40, 111, 99, 116, 97, 110, 116, 47, 119, 114, 101, 99, 107, 46, 98, 111, 111, 107, 41, 46, 108, 111, 115, 116]], p) := hd
 obtain ⟨xs, m, _, ex, hcl, hl, hel⟩ := DataW.trod_array Tryd.underlying129 hd'
 have hce : Tryd.prog.cellsOf 128 = 1 := by kernel_rfl
 have hct : Tryd.prog.cellsOf 129 = 4 := by kernel_rfl
 rw [hct] at hcl
 simp only [Prod.mk.injEq, DataW.agg.injEq] at ex
 obtain ⟨ex, _⟩ := ex
 match xs, hl, ex, hel with
 | [x0, x1, x2, x3], _, ex, hel =>
  simp only [List.map_cons, List.map_nil, List.cons.injEq, and_true] at ex
  obtain ⟨y0, y1, y2, y3⟩ := ex
  obtain ⟨x0a, x0b⟩ := x0
  obtain ⟨x1a, x1b⟩ := x1
  obtain ⟨x2a, x2b⟩ := x2
  obtain ⟨x3a, x3b⟩ := x3
  simp only at y0 y1 y2 y3
  subst y0; subst y1; subst y2; subst y3
  match hcc : cs.toList, hcl with
  | [v0, v1, v2, v3], _ =>
   rw [hcc, hce] at hel
   have h0 := hel 0 (by omega)
   have h1 := hel 1 (by omega)
   have h2 := hel 2 (by omega)
   have h3 := hel 3 (by omega)
   obtain rfl := func_of_trod (f0 := 163) Tryd.underlying128 (by kernel_rfl) h0
   obtain rfl := func_of_trod (f0 := 164) Tryd.underlying128 (by kernel_rfl) h1
   obtain rfl := func_of_trod (f0 := 160) Tryd.underlying128 (by kernel_rfl) h2
   obtain rfl := func_of_trod (f0 := 165) Tryd.underlying128 (by kernel_rfl) h3
   have hcell : ∀ i, w.cell? ⟨0, i, none⟩ = [Value.func (.func 163) #[] #[], .func (.func 164) #[] #[], .func (.func 160) #[] #[], .func (.func 165) #[] #[]][i]? := fun i => by
    have := World.var?_cell hg hv i
    rw [this, ← Array.getElem?_toList, hcc]
   intro g cs hc
   have hc2 : globs.lookup g = some cs := hc
   by_cases hg1 : g = 0
   ·subst hg1
    have e : cs = [.fn 163 [] [], .fn 164 [] [], .fn 160 [] [], .fn 165 [] []] := (Option.some.inj (show some _ = some cs from hc)).symm
    rw [e]
    refine .cptr _ _ [Value.func (.func 163) #[] #[], .func (.func 164) #[] #[], .func (.func 160) #[] #[], .func (.func 165) #[] #[]] rfl (fun i u hi => ⟨?_, ?_⟩) (fun i c u hi hj => ?_)
    ·rw [add_plain, Nat.zero_add]
     show w.cell? _ = some u
     rw [hcell]; exact hi
    ·match i, hi with
     | 0, hi => cases hi; rfl
     | 1, hi => cases hi; rfl
     | 2, hi => cases hi; rfl
     | 3, hi => cases hi; rfl
    ·match i, hi, hj with
     | 0, hi, hj => cases hi; cases hj; exact .fn _ [] [] [] [] rfl (fun i c u h => by cases h) rfl (fun i c u h => by cases h)
     | 1, hi, hj => cases hi; cases hj; exact .fn _ [] [] [] [] rfl (fun i c u h => by cases h) rfl (fun i c u h => by cases h)
     | 2, hi, hj => cases hi; cases hj; exact .fn _ [] [] [] [] rfl (fun i c u h => by cases h) rfl (fun i c u h => by cases h)
     | 3, hi, hj => cases hi; cases hj; exact .fn _ [] [] [] [] rfl (fun i c u h => by cases h) rfl (fun i c u h => by cases h)
   ·exfalso
    simp [globs, List.lookup] at hc2
    split at hc2 <;> simp_all
noncomputable def wk_start (os : Os) : World := (World.doorLaid Tryd.prog 24 os).layVars Tryd.prog [("unicode/utf8.acceptRanges", Rows.laid_unicode_utf8_acceptRanges), ("unicode/utf8.first", Rows.laid_unicode_utf8_first)]
theorem wk_start_os (os : Os) : (wk_start os).os = os := World.layVars_os _ _ _
theorem wk_met (os : Os) (args : Array Value) : laidMetH Tryd.prog [("unicode/utf8.acceptRanges", Rows.laid_unicode_utf8_acceptRanges), ("octant/wreck.kinds", Rows.laid_octant_wreck_kinds), ("unicode/utf8.first", Rows.laid_unicode_utf8_first)] ((wk_start os).forCall (fun _ _ => 0) ⟨#[], args, []⟩).memory := by
 refine laidMetH_of_parts3 (fuel := 8) ?_ (by kernel_rfl) (by kernel_rfl)
 have e0 : ([("unicode/utf8.acceptRanges", Rows.laid_unicode_utf8_acceptRanges), ("octant/wreck.kinds", Rows.laid_octant_wreck_kinds), ("unicode/utf8.first", Rows.laid_unicode_utf8_first)] : List (String × DataW Unit)).filter (fun x => x.2.handleName?.isNone) = [("unicode/utf8.acceptRanges", Rows.laid_unicode_utf8_acceptRanges), ("unicode/utf8.first", Rows.laid_unicode_utf8_first)] := by kernel_rfl
 rw [e0]
 have e1 : ([("unicode/utf8.acceptRanges", Rows.laid_unicode_utf8_acceptRanges), ("unicode/utf8.first", Rows.laid_unicode_utf8_first)] : List (String × DataW Unit)).filter (fun x => ["unicode/utf8.acceptRanges", "unicode/utf8.first"].contains x.1) = [("unicode/utf8.acceptRanges", Rows.laid_unicode_utf8_acceptRanges), ("unicode/utf8.first", Rows.laid_unicode_utf8_first)] := by kernel_rfl
 have e2 : ([("unicode/utf8.acceptRanges", Rows.laid_unicode_utf8_acceptRanges), ("unicode/utf8.first", Rows.laid_unicode_utf8_first)] : List (String × DataW Unit)).filter (fun x => !["unicode/utf8.acceptRanges", "unicode/utf8.first"].contains x.1) = [] := by kernel_rfl
 have h : laidMet Tryd.prog [("unicode/utf8.acceptRanges", Rows.laid_unicode_utf8_acceptRanges), ("unicode/utf8.first", Rows.laid_unicode_utf8_first)] (wk_start os) := laidMet_layVars (w0 := World.doorLaid Tryd.prog 24 os) ["unicode/utf8.acceptRanges", "unicode/utf8.first"] [] (by rw [e1]; rfl) (by rw [e1]; kernel_rfl) (by rw [e1]; kernel_rfl) (by rw [e2]; exact LaidIn.none)
 exact h.of_heap (by simp [World.memory, World.forCall, Input.heap])
theorem wk_shaped (os : Os) (args : Array Value) : ((wk_start os).forCall (fun _ _ => 0) ⟨#[], args, []⟩).Shaped Tryd.prog := World.shaped_of_ZipB (by kernel_rfl) (by kernel_rfl)
end Go.Proofs.YtdkboibnokipaaaDoor

/- Part Wl5. -/
namespace Go.Proofs.YtdkboibnokipaaaDoor
open Go.RowKit Go.Pm Go.Ow
set_option maxRecDepth 100000
set_option linter.unusedVariables false
set_option maxHeartbeats 8000000
noncomputable def rfParse : List TV → Option TV
 | [.str s] => some (parF s)
 | _ => none
theorem rfParse_ok : ∀ xs r, rfParse xs = some r → PCalls Tryd.prog 25 xs r := by
 intro xs r h
 unfold rfParse at h
 split at h
 ·cases h; exact rParse_c _
 ·cases h
attribute [go_sem] rfParse
noncomputable def spPg (s T : TV) : Pm.Spec := (((((noSpec.one 22 wkPrintT).one 23 (oneP [s] T)).one 24 wkParseT).one 25 rfParse).one 16 rSmT).one 21 (oneP [] (.bool true))
theorem spPg_ok {s T : TV} (h : PCalls Tryd.prog 23 [s] T) : SpecOk Tryd.prog (spPg s T).gdt := Spec.gdt_ok (Spec.one_ok (oneP_ok oWorks_c) (Spec.one_ok rSmT_ok (Spec.one_ok rfParse_ok (Spec.one_ok wkParseT_ok (Spec.one_ok (oneP_ok h) (Spec.one_ok wkPrintT_ok noSpec_ok))))))
theorem WreckPages_c {s : TV} {p : List (List ByteArray)} (hp : pgR s p) (lp : p.length ≤ 140737488355328) (lp2 : ∀ r ∈ p, r.length ≤ 140737488355328) (t : ByteArray) : PCalls Tryd.prog 4 [s, .str t] (.bool true) := by
 have k1 := wkPrintT_of hp
 have hsp := spPg_ok (rPrint_c hp lp lp2)
 obtain ⟨T, e, hT⟩ : ∃ T e, prtT p = .tup [.str T, .int .i64 e] := by
  unfold prtT
  split
  ·exact ⟨_, _, rfl⟩
  ·exact ⟨_, _, rfl⟩
 rw [hT] at k1 hsp
 have hbn : (T.toList != T.toList) = false := by simp
 have hbe : (T.toList == T.toList) = true := by simp
 by_cases ht : parE t = 0
 ·have e1 : parT t = .tup [pgV (linesP t), .int .i64 0] := by unfold parT; rw [ht, if_pos rfl]
  have e2 : parF t = .tup [pgF (linesP t), .int .i64 0] := by unfold parF; rw [ht, if_pos rfl]
  have k2 := rSmT_of (pgV_R (linesP t)) (pgF_R (linesP t)) (valid_small (parE_0 ht).2.2.2)
  rw [decide_eq_true rfl] at k2
  obtain ⟨V, hV⟩ : ∃ V, pgV (linesP t) = V := ⟨_, rfl⟩
  obtain ⟨U, hU⟩ : ∃ U, pgF (linesP t) = U := ⟨_, rfl⟩
  rw [hV] at e1 k2
  rw [hU] at e2 k2
  refine pcalls_by Tryd.mixes hsp (fn := Tryd.f4) Tryd.func4 rfl (by kernel_rfl) (by show 2 ≤ _; decide) ?_
  simp (decide := true) (implicitDefEqProofs := false) (maxSteps := 4000000) only [go_sem, Tryd.f4, spPg, k1, e1, e2, k2, hbn, hbe, bne_self_eq_false]
  first | done | trace_state
 ·obtain ⟨n, e1, e2⟩ : ∃ n, parT t = .tup [.nilSl, .int .i64 n] ∧ parF t = .tup [.nilSl, .int .i64 n] := ⟨parE t, by unfold parT; rw [if_neg ht], by unfold parF; rw [if_neg ht]⟩
  have k2 := rSmT_of (s := .nilSl) (t := .nilSl) (.inl ⟨rfl, rfl⟩) (.inl ⟨rfl, rfl⟩) small_nil
  rw [decide_eq_true rfl] at k2
  refine pcalls_by Tryd.mixes hsp (fn := Tryd.f4) Tryd.func4 rfl (by kernel_rfl) (by show 2 ≤ _; decide) ?_
  simp (decide := true) (implicitDefEqProofs := false) (maxSteps := 4000000) only [go_sem, Tryd.f4, spPg, k1, e1, e2, k2, hbn, hbe, bne_self_eq_false]
  first | done | trace_state
end Go.Proofs.YtdkboibnokipaaaDoor

/- Part Wl9. -/
namespace Go.Proofs.YtdkboibnokipaaaDoor
open Go.RowKit Go.Pm Go.Ow
set_option maxRecDepth 100000
set_option linter.unusedVariables false
set_option maxHeartbeats 8000000
noncomputable def spBk : Pm.Spec := (((((noSpec.one 22 wkPrintT).one 17 wkCheckT).one 24 wkParseT).one 16 rSmT).one 21 (oneP [] (.bool true))).gdt
theorem spBk_ok : SpecOk Tryd.prog spBk := Spec.gdt_ok (Spec.one_ok (oneP_ok oWorks_c) (Spec.one_ok rSmT_ok (Spec.one_ok wkParseT_ok (Spec.one_ok wkCheckT_ok (Spec.one_ok wkPrintT_ok noSpec_ok)))))
theorem par_text {p : List (List ByteArray)} (hv : validB p = true) : parT ⟨(textP p).toArray⟩ = .tup [pgV p, .int .i64 0] := by
 have hl := lines_text hv
 have h155 := text_155 hv
 have hs : (⟨(textP p).toArray⟩ : ByteArray).size = (textP p).length := List.size_toArray
 have e : parE ⟨(textP p).toArray⟩ = 0 := by
  unfold parE
  rw [if_pos (by omega), hl, if_pos ⟨suf_text (valid_ne hv), (valid_len hv).1.2, hv⟩]
 unfold parT
 rw [e, if_pos rfl, hl]
theorem WreckBack_c {s : TV} {p : List (List ByteArray)} (hp : pgR s p) (t : ByteArray) : PCalls Tryd.prog 11 [s, .str t] (.bool true) := by
 have k1 := wkPrintT_of hp
 have k2 := wkCheckT_of hp
 have hbt : (t.toList == t.toList) = true := by simp
 by_cases ht : parE t = 0
 ·have e1 : parT t = .tup [pgV (linesP t), .int .i64 0] := by unfold parT; rw [ht, if_pos rfl]
  obtain ⟨_, t2, t3, t4⟩ := parE_0 ht
  have k3 := wkPrintT_of (pgV_R (linesP t))
  have e3 : prtT (linesP t) = .tup [.str t, .int .i64 0] := by
   unfold prtT
   rw [if_pos t4, show (⟨(textP (linesP t)).toArray⟩ : ByteArray) = t from ba_ext (text_lines t2)]
  have k4 := wkCheckT_of (pgV_R (linesP t))
  rw [e3] at k3
  rw [t4, if_pos rfl] at k4
  obtain ⟨V, hV⟩ : ∃ V, pgV (linesP t) = V := ⟨_, rfl⟩
  rw [hV] at e1 k3 k4
  by_cases hv : validB p = true
  ·have e0 : prtT p = .tup [.str ⟨(textP p).toArray⟩, .int .i64 0] := by unfold prtT; rw [if_pos hv]
   have e2 := par_text hv
   have k5 := rSmT_of (pgV_R p) hp (valid_small hv)
   rw [decide_eq_true rfl] at k5
   obtain ⟨T, hT⟩ : ∃ T, (⟨(textP p).toArray⟩ : ByteArray) = T := ⟨_, rfl⟩
   obtain ⟨U, hU⟩ : ∃ U, pgV p = U := ⟨_, rfl⟩
   rw [hT] at e0 e2
   rw [hU] at e2 k5
   refine pcalls_by Tryd.mixes spBk_ok (fn := Tryd.f11) Tryd.func11 rfl (by kernel_rfl) (by show 2 ≤ _; decide) ?_
   simp (decide := true) (implicitDefEqProofs := false) (maxSteps := 4000000) only [go_sem, Tryd.f11, spBk, k1, e0, e2, k5, e1, k3, k4, hbt]
   first | done | trace_state
  ·have e0 : prtT p = .tup [.str ⟨#[]⟩, .int .i64 90] := by unfold prtT; rw [if_neg hv]
   rw [if_neg hv] at k2
   refine pcalls_by Tryd.mixes spBk_ok (fn := Tryd.f11) Tryd.func11 rfl (by kernel_rfl) (by show 2 ≤ _; decide) ?_
   simp (decide := true) (implicitDefEqProofs := false) (maxSteps := 4000000) only [go_sem, Tryd.f11, spBk, k1, e0, k2, e1, k3, k4, hbt]
   first | done | trace_state
 ·have e1 : ∃ n, parT t = .tup [.nilSl, .int .i64 n] ∧ (n != 0) = true := ⟨parE t, by unfold parT; rw [if_neg ht], by simpa using ht⟩
  obtain ⟨n, e1, hn⟩ := e1
  by_cases hv : validB p = true
  ·have e0 : prtT p = .tup [.str ⟨(textP p).toArray⟩, .int .i64 0] := by unfold prtT; rw [if_pos hv]
   have e2 := par_text hv
   have k5 := rSmT_of (pgV_R p) hp (valid_small hv)
   rw [decide_eq_true rfl] at k5
   obtain ⟨T, hT⟩ : ∃ T, (⟨(textP p).toArray⟩ : ByteArray) = T := ⟨_, rfl⟩
   obtain ⟨U, hU⟩ : ∃ U, pgV p = U := ⟨_, rfl⟩
   rw [hT] at e0 e2
   rw [hU] at e2 k5
   refine pcalls_by Tryd.mixes spBk_ok (fn := Tryd.f11) Tryd.func11 rfl (by kernel_rfl) (by show 2 ≤ _; decide) ?_
   simp (decide := true) (implicitDefEqProofs := false) (maxSteps := 4000000) only [go_sem, Tryd.f11, spBk, k1, e0, e2, k5, e1, hn]
   first | done | trace_state
  ·have e0 : prtT p = .tup [.str ⟨#[]⟩, .int .i64 90] := by unfold prtT; rw [if_neg hv]
   rw [if_neg hv] at k2
   refine pcalls_by Tryd.mixes spBk_ok (fn := Tryd.f11) Tryd.func11 rfl (by kernel_rfl) (by show 2 ≤ _; decide) ?_
   simp (decide := true) (implicitDefEqProofs := false) (maxSteps := 4000000) only [go_sem, Tryd.f11, spBk, k1, e0, k2, e1, hn]
   first | done | trace_state
end Go.Proofs.YtdkboibnokipaaaDoor
