/- What the claim leans on, text 7. -/
import Derived.Test.YtdkboibnokipaaaDoorTie
import Derived.Test.YtdkboibnokipaaaDoorCards
import Derived.LaidMore
import Derived.SevenTiedAt
import Derived.OpenShut
import Derived.Lay
import Derived.Test.YtdkboibnokipaaaDoorC6
set_option linter.unusedSimpArgs false
set_option linter.unusedVariables false
set_option maxRecDepth 100000
set_option maxHeartbeats 16000000

namespace Go.Ow
open Go Go.RowKit Go.Pm
theorem fix_same {S : Dg} {i k : Nat} {s : ByteArray} (h : ∀ x, S (i, k, x) = none) : fixS S i k s = s := by
 refine ba_ext2 (size_fix _ _ _ _) fun x hx => ?_
 rw [size_fix] at hx
 show (fixL S i k s).getD x 0 = _
 unfold fixL
 rw [List.getD_eq_getElem?_getD, List.getElem?_map, List.getElem?_range hx]
 show fixB S (i, k, x) _ = _
 unfold fixB
 rw [h]
theorem fix_cut {a : Pl} {d : Int} {s : ByteArray} (hx : a.2.2 < s.size) : fixS (oneD a d) a.1 a.2.1 s = s.extract 0 a.2.2 ++ ⟨#[UInt8.ofNat (48 + d.toNat)]⟩ ++ s.extract (a.2.2 + 1) s.size := by
 have hl := bytes_len s
 apply Go.Proofs.YtdkboibnokipaaaDoor.ba_ext
 rw [ByteArray.data_append, ByteArray.data_append, Array.toList_append, Array.toList_append, Lib.extract_from_zero, Lib.extract_to_end]
 show fixL (oneD a d) a.1 a.2.1 s = s.data.toList.take a.2.2 ++ [UInt8.ofNat (48 + d.toNat)] ++ s.data.toList.drop (a.2.2 + 1)
 unfold fixL
 apply List.ext_getElem?
 intro y
 rw [List.getElem?_map, List.append_assoc]
 by_cases h1 : y < s.size
 ·rw [List.getElem?_range h1]
  show some (fixB (oneD a d) (a.1, a.2.1, y) (s.data.toList.getD y 0)) = _
  unfold fixB oneD updD
  have hg : s.data.toList[y]? = some (s.data.toList.getD y 0) := by
   rw [List.getD_eq_getElem?_getD, List.getElem?_eq_getElem (by omega)]; rfl
  by_cases e : y = a.2.2
  ·subst e
   rw [if_pos rfl, List.getElem?_append_right (by rw [List.length_take]; omega), List.length_take, show a.2.2 - min a.2.2 s.data.toList.length = 0 by omega]
   rfl
  ·rw [if_neg (fun h => e (by rw [← h]))]
   by_cases h2 : y < a.2.2
   ·rw [List.getElem?_append_left (by rw [List.length_take]; omega), List.getElem?_take, if_pos h2, hg]
   ·rw [List.getElem?_append_right (by rw [List.length_take]; omega), List.length_take, List.singleton_append, show y - min a.2.2 s.data.toList.length = (y - a.2.2 - 1) + 1 by omega, List.getElem?_cons_succ, List.getElem?_drop, show a.2.2 + 1 + (y - a.2.2 - 1) = y by omega, hg]
 ·rw [List.getElem?_eq_none (by rw [List.length_range]; omega)]
  symm
  rw [Option.map_none, List.getElem?_eq_none]
  simp only [List.length_append, List.length_take, List.length_drop, List.length_cons, List.length_nil]
  omega
def rowF (r : List ByteArray) : TV := .sl (r.map .str) r.length false
def pgF (p : Pg) : TV := .sl (p.map rowF) p.length false
theorem pgF_R (p : Pg) : pgR (pgF p) p := .inr ⟨_, false, rfl, List.length_map _, fun k r t hr ht => by
 rw [List.getElem?_map, hr] at ht
 cases ht
 exact .inr ⟨false, rfl⟩⟩
theorem page_rows2 {s : TV} {p : Pg} (hs : pgR s p) (hok : shpOk p) : ∃ rs f, s = .sl rs p.length f ∧ rs.length = p.length ∧ ∀ (k : Nat) (r : List ByteArray) (t : TV), p[k]? = some r → rs[k]? = some t → ∃ g, t = .sl (r.map .str) r.length g := by
 have hvl := hok.1
 rcases hs with ⟨_, rfl⟩ | ⟨rs, f, h1, h2, h3⟩
 ·simp at hvl
 ·refine ⟨rs, f, h1, h2, fun k r t hr ht => ?_⟩
  have hk := (List.getElem?_eq_some_iff.1 hr).1
  have := (hok.2.1 k hk).1
  have e : rowA p k = r := by unfold rowA; rw [List.getD_eq_getElem?_getD, hr]; rfl
  rw [e] at this
  rcases h3 k r t hr ht with ⟨_, rfl⟩ | ⟨g, e⟩
  ·simp at this
  ·exact ⟨g, e⟩
end Go.Ow
namespace Go.Proofs.YtdkboibnokipaaaDoor
open Go.RowKit Go.Pm Go.Ow
theorem rWithG_c {s : TV} {p : Pg} (hs : pgR s p) (hok : shpOk p) (ar ac ax v : Int) (S : Dg)
  (hS : ∀ i k (e : ByteArray), i < p.length → k < (rowA p i).length → entA (rowA p i) k = e → ((i : Int) = ar ∧ (k : Int) = ac ∧ ∃ x : Nat, ax = x ∧ x < e.size ∧ fixS S i k e = e.extract 0 x ++ strOfNums [v] ++ e.extract (x + 1) e.size) ∨ (¬ ((i : Int) = ar ∧ (k : Int) = ac) ∧ fixS S i k e = e)) :
  PCalls Tryd.prog 37 [s, .agg [.int .i64 ar, .int .i64 ac, .int .i64 ax], .int .u8 v] (pgF (fixP S p)) := by
 obtain ⟨rs, f, rfl, hrl, hrs⟩ := page_rows2 hs hok
 have hpl := hok.1
 refine pcalls_by Tryd.mixes (Spec.gdt_ok noSpec_ok) (fn := Tryd.f37) Tryd.func37 rfl (by kernel_rfl) (by show 3 ≤ _; decide) ?_
 simp +decide -implicitDefEqProofs (maxSteps := 4000000) only [go_sem, Tryd.f37]
 refine pwpC_loopU (A := { i : Nat // i ≤ p.length }) [0, 2, 4] (fun i => [(8, .t (.int .i64 i.1)), (7, .own (((fixP S p).take i.1).map rowF) i.1 1)]) (fun i => [(1, .tok i.1 41)]) (fun i => p.length - i.1) ⟨0, by omega⟩ (by decide) (fun _ => by rfl) ?_ fun Q1 hQ1 ⟨i, hi⟩ I1 hI1 => ?_
 ·simp +decide -implicitDefEqProofs (maxSteps := 4000000) only [go_sem, List.take_zero, List.map_nil]
 ·by_cases hlt : (i : Int) < p.length
  ·obtain ⟨r, hr⟩ : ∃ r, p[i]? = some r := ⟨_, List.getElem?_eq_getElem (by omega)⟩
   obtain ⟨t, ht⟩ : ∃ t, rs[i]? = some t := ⟨_, List.getElem?_eq_getElem (by omega)⟩
   obtain ⟨g1, rfl⟩ := hrs i r t hr ht
   have er : rowA p i = r := by unfold rowA; rw [List.getD_eq_getElem?_getD, hr]; rfl
   have hrow := hok.2.1 i (by omega)
   rw [er] at hrow
   have d1 := tv_at ht
   have hk1 := Go.Pm.wS (k := i) (by omega)
   simp +decide -implicitDefEqProofs (maxSteps := 4000000) only [go_sem, hlt]
   refine pwpC_loopU (A := { k : Nat // k ≤ r.length }) [0, 2, 4, 7, 8] (fun k => [(10, .t (.int .i64 k.1)), (9, .own (((fixR S i r).take k.1).map .str) k.1 2)]) (fun k => [(2, .tok k.1 9)]) (fun k => r.length - k.1) ⟨0, by omega⟩ (by decide) (fun _ => by rfl) ?_ fun Q2 hQ2 ⟨k, hk⟩ I2 hI2 => ?_
   ·simp +decide -implicitDefEqProofs (maxSteps := 4000000) only [go_sem, List.take_zero, List.map_nil]
   ·by_cases hlt2 : (k : Int) < r.length
    ·obtain ⟨x, hx⟩ : ∃ x, r[k]? = some x := ⟨_, List.getElem?_eq_getElem (by omega)⟩
     have dx := txs_at hx
     have ex : entA r k = x := by unfold entA; rw [List.getD_eq_getElem?_getD, hx]; rfl
     have hxs := hok.2.2 i k (by omega) (by rw [er]; omega)
     rw [er, ex] at hxs
     have hk2 := Go.Pm.wS (k := k) (by omega)
     have hfx := fixR_at S i r k (by omega)
     rw [ex] at hfx
     have hrw : (k + 1) * 16 ≤ 140737488355328 := by omega
     have hll2 : (((fixR S i r).take k).map TV.str).length = k := by rw [List.length_map, List.length_take, fixR_len]; omega
     rcases hS i k x (by omega) (by rw [er]; omega) (by rw [er, ex]) with ⟨e1, e2, y, e3, hy, hf⟩ | ⟨hne, hf⟩
     ·subst e1 e2 e3
      have c1 : ((i : Int) == (i : Int)) = true := by simp
      have hy1 : (y : Int) ≤ x.size := by omega
      have hy2 := Go.Pm.wS (k := y) (by omega)
      have hy3 : ((y + 1 : Nat) : Int) ≤ x.size := by omega
      have hz1 : (x.extract 0 y).size + (strOfNums [v]).size ≤ 4294967296 := by
       have : (strOfNums [v]).size = 1 := rfl
       rw [ByteArray.size_extract, this]; omega
      have hz2 : (x.extract 0 y).size + (strOfNums [v]).size + (x.extract (y + 1) x.size).size ≤ 4294967296 := by
       have : (strOfNums [v]).size = 1 := rfl
       rw [ByteArray.size_extract, ByteArray.size_extract, this]; omega
      simp +decide -implicitDefEqProofs (maxSteps := 4000000) only [go_sem, hlt, d1, hlt2, dx, hy1, hy2, hy3, hz1, hz2, hrw, hll2, Nat.mul_one]
      refine hI2 _ ⟨k + 1, by omega⟩ (by simp only; omega) ?_
      simp +decide -implicitDefEqProofs (maxSteps := 4000000) only [go_sem, hk2, hfx, hf, List.map_append, List.map_cons, List.map_nil]
     ·by_cases e1 : (i : Int) = ar
      ·have e2 : ((k : Int) == ac) = false := by
        rw [beq_eq_false_iff_ne]; exact fun h => hne ⟨e1, h⟩
       subst e1
       simp +decide -implicitDefEqProofs (maxSteps := 4000000) only [go_sem, hlt, d1, hlt2, dx, e2, hrw, hll2, Nat.mul_one]
       refine hI2 _ ⟨k + 1, by omega⟩ (by simp only; omega) ?_
       simp +decide -implicitDefEqProofs (maxSteps := 4000000) only [go_sem, hk2, hfx, hf, List.map_append, List.map_cons, List.map_nil]
      ·have e2 : ((i : Int) == ar) = false := by
        rw [beq_eq_false_iff_ne]; exact e1
       simp +decide -implicitDefEqProofs (maxSteps := 4000000) only [go_sem, hlt, d1, hlt2, dx, e2, hrw, hll2, Nat.mul_one]
       refine hI2 _ ⟨k + 1, by omega⟩ (by simp only; omega) ?_
       simp +decide -implicitDefEqProofs (maxSteps := 4000000) only [go_sem, hk2, hfx, hf, List.map_append, List.map_cons, List.map_nil]
    ·have hke : k = r.length := by omega
     subst hke
     have hfx := fixP_at S p i (by omega)
     rw [er] at hfx
     have htk : (fixR S i r).take r.length = fixR S i r := List.take_of_length_le (by rw [fixR_len]; exact Nat.le_refl _)
     have hr0 : ¬ r.length = 0 := by omega
     have hrv : rowF (fixR S i r) = .sl ((fixR S i r).map .str) r.length false := by unfold rowF; rw [fixR_len]
     have hrw : (i + 1) * 24 ≤ 140737488355328 := by omega
     have hll2 : (((fixP S p).take i).map rowF).length = i := by rw [List.length_map, List.length_take, fixP_len]; omega
     simp +decide -implicitDefEqProofs (maxSteps := 4000000) only [go_sem, hlt, d1, hlt2, Nat.mul_one]
     refine hQ2 _ _ ?_
     simp +decide -implicitDefEqProofs (maxSteps := 4000000) only [go_sem, htk, hr0, hrw, hll2, Nat.mul_one]
     refine hI1 _ ⟨i + 1, by omega⟩ (by simp only; omega) ?_
     simp +decide -implicitDefEqProofs (maxSteps := 4000000) only [go_sem, hk1, hfx, List.map_append, List.map_cons, List.map_nil, hrv]
  ·have hie : i = p.length := by omega
   subst hie
   have htk : (fixP S p).take p.length = fixP S p := List.take_of_length_le (by rw [fixP_len]; exact Nat.le_refl _)
   have hp0 : ¬ p.length = 0 := by omega
   have hpg : pgF (fixP S p) = .sl ((fixP S p).map rowF) p.length false := by unfold pgF; rw [fixP_len]
   simp +decide -implicitDefEqProofs (maxSteps := 4000000) only [go_sem, hlt]
   refine hQ1 _ _ ?_
   simp +decide -implicitDefEqProofs (maxSteps := 4000000) only [go_sem, htk, hp0, hpg]
theorem rWith_c {s : TV} {p : Pg} (hs : pgR s p) (hok : shpOk p) {a : Pl} (ha : inP p a) {d : Int} (hd : 0 ≤ d) : PCalls Tryd.prog 37 [s, plT a, .int .u8 (48 + d)] (pgF (setP p a d)) := by
 refine rWithG_c hs hok a.1 a.2.1 a.2.2 (48 + d) (oneD a d) fun i k e hi hk he => ?_
 by_cases hc : (i : Int) = (a.1 : Int) ∧ (k : Int) = (a.2.1 : Int)
 ·obtain ⟨h1, h2⟩ := hc
  have h1' : i = a.1 := by omega
  have h2' : k = a.2.1 := by omega
  subst h1' h2'
  refine .inl ⟨h1, h2, a.2.2, rfl, by rw [← he]; exact ha.2.2, ?_⟩
  rw [fix_cut (by rw [← he]; exact ha.2.2)]
  have : strOfNums [48 + d] = ⟨#[UInt8.ofNat (48 + d.toNat)]⟩ := by
   unfold strOfNums
   rw [List.map_cons, List.map_nil, show (48 + d).toNat = 48 + d.toNat by omega]
  rw [this]
 ·refine .inr ⟨hc, fix_same fun x => ?_⟩
  unfold oneD updD
  rw [if_neg fun e => hc (by rw [← e]; exact ⟨rfl, rfl⟩)]
theorem rWith0_c {s : TV} {p : Pg} (hs : pgR s p) (hok : shpOk p) : PCalls Tryd.prog 37 [s, .agg [.int .i64 (-1), .int .i64 0, .int .i64 0], .int .u8 48] (pgF p) := by
 have hp : fixP (fun _ => none) p = p := page_ext (fix_shp _ _) fun a ha => by
  rw [shp_in (fix_shp _ _)] at ha
  rw [fix_by _ _ ha]; rfl
 have := rWithG_c hs hok (-1) 0 0 48 (fun _ => none) fun i k e hi hk he => .inr ⟨fun h => by omega, fix_same fun _ => rfl⟩
 rw [hp] at this
 exact this
end Go.Proofs.YtdkboibnokipaaaDoor

namespace Go.Ow
open Go Go.RowKit Go.Pm
def entTo (s : ByteArray) : Nat → Bool
 | 0 => true
 | k + 1 => entTo s k && entC ((s.data.toList.getD k 0).toNat : Int)
theorem entTo_all {s : ByteArray} : ∀ k, k ≤ s.size → entTo s k = (s.data.toList.take k).all fun b => entC b.toNat
 | 0, _ => rfl
 | k + 1, h => by
  have hl := bytes_len s
  have e : s.data.toList[k]? = some (s.data.toList.getD k 0) := by rw [List.getD_eq_getElem?_getD, List.getElem?_eq_getElem (by omega)]; rfl
  rw [entTo, entTo_all k (by omega), List.take_add_one, e, List.all_append]
  simp
theorem entTo_mono {s : ByteArray} {k : Nat} (h : entTo s k = false) : ∀ m, k ≤ m → entTo s m = false
 | 0, hm => by have : k = 0 := by omega
               subst this; exact h
 | m + 1, hm => by
  by_cases e : k = m + 1
  ·subst e; exact h
  ·rw [entTo, entTo_mono h m (by omega)]; rfl
theorem entB_to (s : ByteArray) : entB s = ((inW s.size 1 5 && !(decide ((1 : Int) < s.size) && ((s.data.toList.getD 0 0).toNat : Int) == 48)) && entTo s s.size) := by
 rw [entTo_all _ (Nat.le_refl _), List.take_of_length_le (by rw [bytes_len]; exact Nat.le_refl _), Bool.and_assoc]; rfl
theorem shp_lost {p : Pg} (h : shpOk p) : lostP p ≤ 125 := by
 have h1 : ∀ r ∈ p, lostR r ≤ 25 := fun r hr => by
  obtain ⟨i, hi, rfl⟩ := List.getElem_of_mem hr
  have e : rowA p i = p[i] := by unfold rowA; rw [List.getD_eq_getElem?_getD, List.getElem?_eq_getElem hi]; rfl
  have hl := (h.2.1 i hi).1
  rw [e] at hl
  have := lostR_le (r := p[i]) (m := 5) fun s hs => by
   obtain ⟨k, hk, rfl⟩ := List.getElem_of_mem hs
   have := h.2.2 i k hi (by rw [e]; exact hk)
   rw [e] at this
   have e2 : entA p[i] k = p[i][k] := by unfold entA; rw [List.getD_eq_getElem?_getD, List.getElem?_eq_getElem hk]; rfl
   rw [e2] at this
   exact this.2
  omega
 have := lostP_le h1
 have := h.1.2
 omega
def okE (w : Nat) (r : List ByteArray) (k : Nat) : Bool := (inW r.length 2 5 && r.length == w) && (r.take k).all entB
theorem okE_all (w : Nat) (r : List ByteArray) {k : Nat} (h : r.length ≤ k) : okE w r k = rowOk w r := by unfold okE rowOk; rw [List.take_of_length_le h, Bool.and_assoc]
theorem okE_succ {w : Nat} {r : List ByteArray} {k : Nat} {x : ByteArray} (hx : r[k]? = some x) : okE w r (k + 1) = (okE w r k && entB x) := by
 unfold okE; rw [List.take_add_one, hx, List.all_append]; simp [Bool.and_assoc]
theorem okE_bad {w : Nat} {r : List ByteArray} {k : Nat} (h : okE w r k = false) : rowOk w r = false := by
 have hm : ∀ m, k ≤ m → okE w r m = false := by
  intro m
  induction m with
  | zero => intro hk; have : k = 0 := by omega
            subst this; exact h
  | succ m ih =>
   intro hk
   by_cases e : k = m + 1
   ·subst e; exact h
   ·have := ih (by omega)
    unfold okE at this ⊢
    rw [List.take_add_one, List.all_append, ← Bool.and_assoc, this]; rfl
 rw [← okE_all w r (Nat.le_max_left r.length k)]
 exact hm _ (Nat.le_max_right _ _)
def okR (p : Pg) (i : Nat) : Bool := inW p.length 2 5 && (p.take i).all (rowOk (wideP p))
theorem okR_all (p : Pg) {k : Nat} (h : p.length ≤ k) : okR p k = preB p := by unfold okR preB; rw [List.take_of_length_le h]
theorem okR_succ {p : Pg} {k : Nat} {r : List ByteArray} (hx : p[k]? = some r) : okR p (k + 1) = (okR p k && rowOk (wideP p) r) := by
 unfold okR; rw [List.take_add_one, hx, List.all_append]; simp [Bool.and_assoc]
theorem okR_bad {p : Pg} {k : Nat} (h : okR p k = false) : validB p = false := by
 have hm : ∀ m, k ≤ m → okR p m = false := by
  intro m
  induction m with
  | zero => intro hk; have : k = 0 := by omega
            subst this; exact h
  | succ m ih =>
   intro hk
   by_cases e : k = m + 1
   ·subst e; exact h
   ·have := ih (by omega)
    unfold okR at this ⊢
    rw [List.take_add_one, List.all_append, ← Bool.and_assoc, this]; rfl
 have : preB p = false := by
  rw [← okR_all p (Nat.le_max_left p.length k)]
  exact hm _ (Nat.le_max_right _ _)
 rw [valid_pre, this]; rfl
end Go.Ow
namespace Go.Proofs.YtdkboibnokipaaaDoor
open Go.RowKit Go.Pm Go.Ow
theorem rEntry_c (s : ByteArray) : PCalls Tryd.prog 58 [.str s] (.bool (entB s)) := by
 refine pcalls_by Tryd.mixes (Spec.gdt_ok spRa_ok) (fn := Tryd.f58) Tryd.func58 rfl (by kernel_rfl) (by show 1 ≤ _; decide) ?_
 have hlen := bytes_len s
 have hgd : (s.data.getD 0 0) = s.data.toList.getD 0 0 := by simp
 rw [entB_to]
 obtain ⟨y0, hy0⟩ : ∃ y, s.data.getD 0 0 = y := ⟨_, rfl⟩
 rw [← hgd, hy0]
 rcases Bool.eq_false_or_eq_true (inW s.size 1 5) with h1 | h1
 rotate_left
 ·rw [h1, Bool.false_and, Bool.false_and]
  simp +decide -implicitDefEqProofs (maxSteps := 4000000) only [go_sem, Tryd.f58, h1]
  refine pwpC_loopU (A := Unit) [0] (fun _ => [(3, .t (.bool false)), (4, .t (.int .i64 0))]) (fun _ => []) (fun _ => 0) () (by decide) (fun _ => by rfl) ?_ fun Q1 hQ1 _ I1 hI1 => ?_
  ·simp +decide -implicitDefEqProofs (maxSteps := 4000000) only [go_sem]
  ·simp +decide -implicitDefEqProofs (maxSteps := 4000000) only [go_sem]
   refine hQ1 _ _ ?_
   simp +decide -implicitDefEqProofs (maxSteps := 4000000) only [go_sem]
 ·have hb := inW_iff.1 h1
  rw [h1, Bool.true_and]
  by_cases h2 : ¬ (s.size : Int) = 1 ∧ (y0.toNat : Int) = 48
  ·have c1 : ((s.size : Int) == 1) = false := by rw [beq_eq_false_iff_ne]; exact h2.1
   have c2 : ((y0.toNat : Int) != 48) = false := by rw [h2.2]; rfl
   have c3 : ((y0.toNat : Int) == 48) = true := by rw [h2.2]; rfl
   have c4 : decide ((1 : Int) < s.size) = true := by rw [decide_eq_true_eq]; omega
   have c5 : (0 : Int) < s.size := by omega
   rw [c3, c4]
   simp +decide -implicitDefEqProofs (maxSteps := 4000000) only [go_sem, Tryd.f58, h1, c1, hy0, c2, c5]
   refine pwpC_loopU (A := Unit) [0] (fun _ => [(3, .t (.bool false)), (4, .t (.int .i64 0))]) (fun _ => []) (fun _ => 0) () (by decide) (fun _ => by rfl) ?_ fun Q1 hQ1 _ I1 hI1 => ?_
   ·simp +decide -implicitDefEqProofs (maxSteps := 4000000) only [go_sem]
   ·simp +decide -implicitDefEqProofs (maxSteps := 4000000) only [go_sem]
    refine hQ1 _ _ ?_
    simp +decide -implicitDefEqProofs (maxSteps := 4000000) only [go_sem]
  ·have hd : (!(decide ((1 : Int) < s.size) && (y0.toNat : Int) == 48)) = true := by
    rw [Bool.not_eq_true', Bool.and_eq_false_iff]
    by_cases e : (s.size : Int) = 1
    ·left; rw [decide_eq_false_iff_not]; omega
    ·right; rw [beq_eq_false_iff_ne]; exact fun h => h2 ⟨e, h⟩
   rw [hd, Bool.true_and]
   have c5 : (0 : Int) < s.size := by omega
   rcases (Decidable.em ((s.size : Int) = 1)) with c1 | c1
   have c1' : ((s.size : Int) == 1) = true := by rw [beq_iff_eq]; exact c1
   simp +decide -implicitDefEqProofs (maxSteps := 4000000) only [go_sem, Tryd.f58, h1, c1']
   rotate_left
   have c1' : ((s.size : Int) == 1) = false := by rw [beq_eq_false_iff_ne]; exact c1
   have c2 : ((y0.toNat : Int) != 48) = true := by rw [bne_iff_ne]; exact fun h => h2 ⟨c1, h⟩
   simp +decide -implicitDefEqProofs (maxSteps := 4000000) only [go_sem, Tryd.f58, h1, c1', hy0, c2, c5]
   all_goals
    refine pwpC_loopU (A := { k : Nat // k ≤ s.size }) [0] (fun k => [(3, .t (.bool (entTo s k.1))), (4, .t (.int .i64 k.1))]) (fun _ => []) (fun k => s.size - k.1) ⟨0, Nat.zero_le _⟩ (by decide) (fun _ => by rfl) ?_ fun Q1 hQ1 ⟨k, hk⟩ I1 hI1 => ?_
    ·simp +decide -implicitDefEqProofs (maxSteps := 4000000) only [go_sem, entTo]
    ·rcases Bool.eq_false_or_eq_true (entTo s k) with ho | ho
     rotate_left
     ·have hbd := entTo_mono ho s.size hk
      simp +decide -implicitDefEqProofs (maxSteps := 4000000) only [go_sem, ho]
      refine hQ1 _ _ ?_
      simp +decide -implicitDefEqProofs (maxSteps := 4000000) only [go_sem, hbd]
     ·by_cases hlt : (k : Int) < s.size
      ·obtain ⟨x, hx⟩ : ∃ x, s.data.toList[k]? = some x := ⟨_, List.getElem?_eq_getElem (by omega)⟩
       have hg : s.data.getD k 0 = x := by
        have : s.data[k]? = some x := by rw [← Array.getElem?_toList]; exact hx
        simp [this]
       have hk1 := Go.Pm.wS (k := k) (by omega)
       have en : entTo s (k + 1) = entC (x.toNat : Int) := by rw [entTo, ho, List.getD_eq_getElem?_getD, hx]; rfl
       unfold entC inW at en
       by_cases a1 : (x.toNat : Int) = 63
       ·have c6 : ((x.toNat : Int) == 63) = true := by rw [a1]; rfl
        rw [c6, Bool.true_or] at en
        simp +decide -implicitDefEqProofs (maxSteps := 4000000) only [go_sem, ho, hlt, hg, c6]
        refine hI1 _ ⟨k + 1, by omega⟩ (by simp only; omega) ?_
        simp +decide -implicitDefEqProofs (maxSteps := 4000000) only [go_sem, hk1, en]
       ·have c6 : ((x.toNat : Int) == 63) = false := by rw [beq_eq_false_iff_ne]; exact a1
        rw [c6, Bool.false_or] at en
        by_cases a2 : (x.toNat : Int) ≥ 48
        ·by_cases a3 : (x.toNat : Int) ≤ 57
         ·rw [decide_eq_true a2, decide_eq_true a3] at en
          simp +decide -implicitDefEqProofs (maxSteps := 4000000) only [go_sem, ho, hlt, hg, c6, a2, a3]
          refine hI1 _ ⟨k + 1, by omega⟩ (by simp only; omega) ?_
          simp +decide -implicitDefEqProofs (maxSteps := 4000000) only [go_sem, hk1, en]
         ·rw [decide_eq_false a3, Bool.and_false] at en
          simp +decide -implicitDefEqProofs (maxSteps := 4000000) only [go_sem, ho, hlt, hg, c6, a2, a3]
          refine hI1 _ ⟨k + 1, by omega⟩ (by simp only; omega) ?_
          simp +decide -implicitDefEqProofs (maxSteps := 4000000) only [go_sem, hk1, en]
        ·rw [decide_eq_false a2, Bool.false_and] at en
         simp +decide -implicitDefEqProofs (maxSteps := 4000000) only [go_sem, ho, hlt, hg, c6, a2]
         refine hI1 _ ⟨k + 1, by omega⟩ (by simp only; omega) ?_
         simp +decide -implicitDefEqProofs (maxSteps := 4000000) only [go_sem, hk1, en]
      ·have hke : k = s.size := by omega
       subst hke
       simp +decide -implicitDefEqProofs (maxSteps := 4000000) only [go_sem, ho, hlt]
       refine hQ1 _ _ ?_
       simp +decide -implicitDefEqProofs (maxSteps := 4000000) only [go_sem, ho]
theorem rLost_c {s : TV} {p : Pg} (hs : pgR s p) (hok : shpOk p) : PCalls Tryd.prog 55 [s] (lostT (placesP p)) := by
 obtain ⟨rs, f, rfl, hrl, hrs⟩ := page_rows2 hs hok
 have hlp := places_len p
 have hll := shp_lost hok
 have hvl := hok.1
 obtain ⟨R, hR⟩ : ∃ R, lostT (placesP p) = R := ⟨_, rfl⟩
 rw [hR]
 refine pcalls_by Tryd.mixes (Spec.gdt_ok noSpec_ok) (fn := Tryd.f55) Tryd.func55 rfl (by kernel_rfl) (by show 1 ≤ _; decide) ?_
 simp +decide -implicitDefEqProofs (maxSteps := 4000000) only [go_sem, Tryd.f55]
 refine pwpC_loopU (A := { i : Nat // i ≤ p.length }) [0] (fun i => [(4, .t (.int .i64 i.1)), (3, .own ((upP p i.1).flatMap plC) (upP p i.1).length 0)]) (fun i => [(0, .tok (upP p i.1).length 29)]) (fun i => p.length - i.1) ⟨0, by omega⟩ (by decide) (fun _ => by rfl) ?_ fun Q1 hQ1 ⟨i, hi⟩ I1 hI1 => ?_
 ·simp +decide -implicitDefEqProofs (maxSteps := 4000000) only [go_sem, show upP p 0 = [] from rfl, List.flatMap_nil, List.length_nil]
 ·by_cases hlt : (i : Int) < p.length
  ·obtain ⟨r, hr⟩ : ∃ r, p[i]? = some r := ⟨_, List.getElem?_eq_getElem (by omega)⟩
   obtain ⟨t, ht⟩ : ∃ t, rs[i]? = some t := ⟨_, List.getElem?_eq_getElem (by omega)⟩
   obtain ⟨g, rfl⟩ := hrs i r t hr ht
   have d1 := tv_at ht
   have er : rowA p i = r := by unfold rowA; rw [List.getD_eq_getElem?_getD, hr]; rfl
   have hrow := hok.2.1 i (by omega)
   rw [er] at hrow
   have hk1 := Go.Pm.wS (k := i) (by omega)
   have hus := upP_succ p i
   rw [er] at hus
   obtain ⟨U, hU⟩ : ∃ U, upP p i = U := ⟨_, rfl⟩
   rw [hU] at hus
   have hUl : U.length + (upR i r r.length).length ≤ 125 := by
    have h1 := upP_len p (i + 1) (by omega)
    rw [hus, List.length_append] at h1
    have h2 := lostP_mono p (i + 1)
    omega
   have hmono : ∀ k, k ≤ r.length → (upR i r k).length ≤ (upR i r r.length).length := fun k hk => by
    rw [upR_len i r k hk, upR_len i r _ (Nat.le_refl _), List.take_length]; exact lostR_mono r k
   simp +decide -implicitDefEqProofs (maxSteps := 4000000) only [go_sem, hlt, hU]
   refine pwpC_loopU (A := { k : Nat // k ≤ r.length }) [0, 4] (fun k => [(5, .t (.int .i64 k.1)), (3, .own ((U ++ upR i r k.1).flatMap plC) (U ++ upR i r k.1).length 0)]) (fun k => [(0, .tok (U ++ upR i r k.1).length 29)]) (fun k => r.length - k.1) ⟨0, by omega⟩ (by decide) (fun _ => by rfl) ?_ fun Q2 hQ2 ⟨k, hk⟩ I2 hI2 => ?_
   ·simp +decide -implicitDefEqProofs (maxSteps := 4000000) only [go_sem, show upR i r 0 = [] from rfl, List.append_nil]
   ·by_cases hlt2 : (k : Int) < r.length
    ·obtain ⟨x, hx⟩ : ∃ x, r[k]? = some x := ⟨_, List.getElem?_eq_getElem (by omega)⟩
     have dx := txs_at hx
     have hk2 := Go.Pm.wS (k := k) (by omega)
     have ex : entA r k = x := by unfold entA; rw [List.getD_eq_getElem?_getD, hx]; rfl
     have hxs := hok.2.2 i k (by omega) (by rw [er]; omega)
     rw [er, ex] at hxs
     have hus2 := upR_succ i r k
     rw [ex] at hus2
     have hm1 := hmono (k + 1) (by omega)
     rw [hus2, List.length_append] at hm1
     obtain ⟨V, hV⟩ : ∃ V, U ++ upR i r k = V := ⟨_, rfl⟩
     have hVs : U ++ upR i r (k + 1) = V ++ upS i k x x.size := by rw [hus2, ← List.append_assoc, hV]
     have hVl : V.length + (upS i k x x.size).length ≤ 125 := by rw [← hV, List.length_append]; omega
     have hlen := bytes_len x
     simp +decide -implicitDefEqProofs (maxSteps := 4000000) only [go_sem, hlt, d1, hlt2, hV, Nat.mul_one]
     refine pwpC_loopU (A := { j : Nat // j ≤ x.size ∧ (upS i k x j).length ≤ (upS i k x x.size).length }) [0, 4, 5] (fun j => [(6, .t (.int .i64 j.1)), (3, .own ((V ++ upS i k x j.1).flatMap plC) (V ++ upS i k x j.1).length 0)]) (fun j => [(0, .tok (V ++ upS i k x j.1).length 29)]) (fun j => x.size - j.1) ⟨0, by omega, by simp [upS]⟩ (by decide) (fun _ => by rfl) ?_ fun Q3 hQ3 ⟨j, hj, hjl⟩ I3 hI3 => ?_
     ·simp +decide -implicitDefEqProofs (maxSteps := 4000000) only [go_sem, show upS i k x 0 = [] from rfl, List.append_nil]
     ·by_cases hlt3 : (j : Int) < x.size
      ·obtain ⟨b, hb⟩ : ∃ b, x.data.toList[j]? = some b := ⟨_, List.getElem?_eq_getElem (by omega)⟩
       have hg : x.data.getD j 0 = b := by
        have : x.data[j]? = some b := by rw [← Array.getElem?_toList]; exact hb
        simp [this]
       have eb : x.data.toList.getD j 0 = b := by rw [List.getD_eq_getElem?_getD, hb]; rfl
       have hus3 := upS_succ i k x j
       rw [eb] at hus3
       have hk3 := Go.Pm.wS (k := j) (by omega)
       have hjm : (upS i k x (j + 1)).length ≤ (upS i k x x.size).length := by
        rw [upS_len i k x (j + 1) (by omega), upS_len i k x x.size (Nat.le_refl _)]
        rw [show List.take x.size x.data.toList = x.data.toList from List.take_of_length_le (by omega)]
        exact List.Sublist.count_le _ (List.take_sublist _ _)
       by_cases hq : b = 63
       ·rw [if_pos hq] at hus3
        have c1 : ((b.toNat : Int) == 63) = true := by rw [hq]; rfl
        obtain ⟨W, hW⟩ : ∃ W, V ++ upS i k x j = W := ⟨_, rfl⟩
        have hWs : V ++ upS i k x (j + 1) = W ++ [(i, k, j)] := by rw [hus3, ← List.append_assoc, hW]
        have hWl : W.length ≤ 125 := by rw [← hW, List.length_append]; omega
        have hwr : (W.length + 1) * 24 ≤ 140737488355328 := by omega
        have hwf := plC_len W
        simp +decide -implicitDefEqProofs (maxSteps := 4000000) only [go_sem, hlt, d1, hlt2, dx, hlt3, hg, c1, hW, hwr, hwf, Nat.mul_one]
        refine hI3 _ ⟨j + 1, by omega, hjm⟩ (by simp only; omega) ?_
        simp +decide -implicitDefEqProofs (maxSteps := 4000000) only [go_sem, hk3, hWs, List.flatMap_append, List.flatMap_cons, List.flatMap_nil, plC, List.length_append, List.append_nil, List.length_cons, List.length_nil]
       ·rw [if_neg hq, List.append_nil] at hus3
        have c1 : ((b.toNat : Int) == 63) = false := by
         have : ¬ (b.toNat : Int) = 63 := fun e => hq (UInt8.toNat_inj.1 (show b.toNat = 63 by omega))
         simpa using this
        simp +decide -implicitDefEqProofs (maxSteps := 4000000) only [go_sem, hlt, d1, hlt2, dx, hlt3, hg, c1, Nat.mul_one]
        refine hI3 _ ⟨j + 1, by omega, hjm⟩ (by simp only; omega) ?_
        simp +decide -implicitDefEqProofs (maxSteps := 4000000) only [go_sem, hk3, hus3]
      ·have hje : j = x.size := by omega
       subst hje
       simp +decide -implicitDefEqProofs (maxSteps := 4000000) only [go_sem, hlt, d1, hlt2, dx, hlt3, Nat.mul_one]
       refine hQ3 _ _ ?_
       simp +decide -implicitDefEqProofs (maxSteps := 4000000) only [go_sem]
       refine hI2 _ ⟨k + 1, by omega⟩ (by simp only; omega) ?_
       simp +decide -implicitDefEqProofs (maxSteps := 4000000) only [go_sem, hk2, hVs]
    ·have hke : k = r.length := by omega
     subst hke
     simp +decide -implicitDefEqProofs (maxSteps := 4000000) only [go_sem, hlt, d1, hlt2, Nat.mul_one]
     refine hQ2 _ _ ?_
     simp +decide -implicitDefEqProofs (maxSteps := 4000000) only [go_sem]
     refine hI1 _ ⟨i + 1, by omega⟩ (by simp only; omega) ?_
     simp +decide -implicitDefEqProofs (maxSteps := 4000000) only [go_sem, hk1, hus]
  ·have hie : i = p.length := by omega
   subst hie
   obtain ⟨L, hL⟩ : ∃ L, upP p p.length = L := ⟨_, rfl⟩
   have hL2 : placesP p = L := hL
   rw [hL2] at hR
   unfold lostT at hR
   by_cases h0 : L.length = 0
   ·rw [if_pos h0] at hR
    simp +decide -implicitDefEqProofs (maxSteps := 4000000) only [go_sem, hlt, hL]
    refine hQ1 _ _ ?_
    simp +decide -implicitDefEqProofs (maxSteps := 4000000) only [go_sem, h0, ← hR]
   ·rw [if_neg h0] at hR
    simp +decide -implicitDefEqProofs (maxSteps := 4000000) only [go_sem, hlt, hL]
    refine hQ1 _ _ ?_
    simp +decide -implicitDefEqProofs (maxSteps := 4000000) only [go_sem, h0, ← hR]
noncomputable def rfEntry : List TV → Option TV
 | [.str s] => some (.bool (entB s))
 | _ => none
theorem rfEntry_ok : ∀ xs r, rfEntry xs = some r → PCalls Tryd.prog 58 xs r := by
 intro xs r h
 unfold rfEntry at h
 split at h
 ·cases h; exact rEntry_c _
 ·cases h
attribute [go_sem] rfEntry
end Go.Proofs.YtdkboibnokipaaaDoor

namespace Go.Proofs.YtdkboibnokipaaaDoor
open Go.RowKit Go.Pm Go.Ow
theorem lostT_len (L : List Pl) : (L.length = 0 ∧ lostT L = .nilSl) ∨ (L.length ≠ 0 ∧ lostT L = .sl (L.flatMap plC) L.length false) := by
 unfold lostT
 by_cases h : L.length = 0
 ·rw [if_pos h]; exact .inl ⟨h, rfl⟩
 ·rw [if_neg h]; exact .inr ⟨h, rfl⟩
noncomputable def spWA : Pm.Spec := ((noSpec.one 42 rfIn).one 58 rfEntry).gdt
theorem spWA_ok : SpecOk Tryd.prog spWA := Spec.gdt_ok (Spec.one_ok rfEntry_ok (Spec.one_ok rfIn_ok noSpec_ok))
theorem rCheckPage_c {s : TV} {p : Pg} (hs : pgR s p) (hb : p.length ≤ 140737488355328) (hb2 : ∀ r ∈ p, r.length ≤ 140737488355328) : PCalls Tryd.prog 18 [s] (.int .i64 (if validB p then 0 else 90)) := by
 by_cases h1 : inW p.length 2 5 = true
 rotate_left
 ·have h1 : inW p.length 2 5 = false := by simpa using h1
  have e : validB p = false := by unfold validB; rw [h1]; rfl
  refine pcalls_by Tryd.mixes spWA_ok (fn := Tryd.f18) Tryd.func18 rfl (by kernel_rfl) (by show 1 ≤ _; decide) ?_
  rcases hs with ⟨rfl, rfl⟩ | ⟨rs, f, rfl, hrl, hrs⟩
  ·have h1' : inW 0 2 5 = false := rfl
   simp +decide -implicitDefEqProofs (maxSteps := 4000000) only [go_sem, Tryd.f18, spWA, h1', e]
   refine pwpC_loopU (A := Unit) [0] (fun _ => [(3, .t (.bool false)), (4, .t (.int .i64 0))]) (fun _ => []) (fun _ => 0) () (by decide) (fun _ => by rfl) ?_ fun Q1 hQ1 _ I1 hI1 => ?_
   ·simp +decide -implicitDefEqProofs (maxSteps := 4000000) only [go_sem, spWA]
   ·simp +decide -implicitDefEqProofs (maxSteps := 4000000) only [go_sem, spWA]
    refine hQ1 _ _ ?_
    simp +decide -implicitDefEqProofs (maxSteps := 4000000) only [go_sem, spWA, e]
  ·simp +decide -implicitDefEqProofs (maxSteps := 4000000) only [go_sem, Tryd.f18, spWA, h1, e]
   refine pwpC_loopU (A := Unit) [0] (fun _ => [(3, .t (.bool false)), (4, .t (.int .i64 0))]) (fun _ => []) (fun _ => 0) () (by decide) (fun _ => by rfl) ?_ fun Q1 hQ1 _ I1 hI1 => ?_
   ·simp +decide -implicitDefEqProofs (maxSteps := 4000000) only [go_sem, spWA]
   ·simp +decide -implicitDefEqProofs (maxSteps := 4000000) only [go_sem, spWA]
    refine hQ1 _ _ ?_
    simp +decide -implicitDefEqProofs (maxSteps := 4000000) only [go_sem, spWA, e]
 ·have hb := inW_iff.1 h1
  obtain ⟨L, hL⟩ : ∃ L, placesP p = L := ⟨_, rfl⟩
  have hlost : preB p = true → PCalls Tryd.prog 55 [s] (lostT L) := fun h => by rw [← hL]; exact rLost_c hs (pre_iff.1 h).1
  have hval : preB p = true → validB p = decide (L.length ≤ 5) := fun h => by rw [valid_pre, h, ← places_len, hL]; rfl
  have hsp : SpecOk Tryd.prog (((noSpec.one 42 rfIn).one 58 rfEntry).one 55 (fun a => if preB p = true then oneP [s] (lostT L) a else none)).gdt := Spec.gdt_ok (Spec.one_ok (fun a r h => by
   split at h
   ·rename_i hp; exact oneP_ok (hlost hp) a r h
   ·cases h) (Spec.one_ok rfEntry_ok (Spec.one_ok rfIn_ok noSpec_ok)))
  rcases hs with ⟨rfl, rfl⟩ | ⟨rs, f, rfl, hrl, hrs⟩
  ·simp at hb
  obtain ⟨r0, hr0⟩ : ∃ r, p[0]? = some r := ⟨_, List.getElem?_eq_getElem (by omega)⟩
  obtain ⟨t0, ht0⟩ : ∃ t, rs[0]? = some t := ⟨_, List.getElem?_eq_getElem (by omega)⟩
  have hx0 := hrs 0 r0 t0 hr0 ht0
  have hw0 : wideP p = r0.length := by unfold wideP; rw [List.getD_eq_getElem?_getD, hr0]; rfl
  have d0 := tv_at ht0
  have h0 : (0 : Int) < p.length := by omega
  refine pcalls_by Tryd.mixes hsp (fn := Tryd.f18) Tryd.func18 rfl (by kernel_rfl) (by show 1 ≤ _; decide) ?_
  simp +decide -implicitDefEqProofs (maxSteps := 4000000) only [go_sem, Tryd.f18, h1]
  refine pwpC_loopU (A := { i : Nat // i ≤ p.length }) [0] (fun i => [(3, .t (.bool (okR p i.1))), (4, .t (.int .i64 i.1))]) (fun _ => []) (fun i => p.length - i.1) ⟨0, by omega⟩ (by decide) (fun _ => by rfl) ?_ fun Q1 hQ1 ⟨i, hi⟩ I1 hI1 => ?_
  ·have e : okR p 0 = true := by unfold okR; rw [h1]; rfl
   simp +decide -implicitDefEqProofs (maxSteps := 4000000) only [go_sem, e]
  ·rcases Bool.eq_false_or_eq_true (okR p i) with ho | ho
   rotate_left
   ·have e := okR_bad ho
    simp +decide -implicitDefEqProofs (maxSteps := 4000000) only [go_sem, ho]
    refine hQ1 _ _ ?_
    simp +decide -implicitDefEqProofs (maxSteps := 4000000) only [go_sem, ho, e]
   ·by_cases hlt : (i : Int) < p.length
    ·obtain ⟨r, hr⟩ : ∃ r, p[i]? = some r := ⟨_, List.getElem?_eq_getElem (by omega)⟩
     obtain ⟨t, ht⟩ : ∃ t, rs[i]? = some t := ⟨_, List.getElem?_eq_getElem (by omega)⟩
     have hx := hrs i r t hr ht
     have d1 := tv_at ht
     have hrb := hb2 r (List.mem_of_getElem? hr)
     have hk1 := Go.Pm.wS (k := i) (by omega)
     have hsucc := okR_succ hr
     rw [ho, Bool.true_and, hw0] at hsucc
     rcases Bool.eq_false_or_eq_true (inW r.length 2 5 && r.length == r0.length) with h2 | h2
     rotate_left
     ·have e0 : okE r0.length r 0 = false := by unfold okE; rw [h2]; rfl
      have e1 := okE_bad e0
      rw [e1] at hsucc
      rcases Bool.eq_false_or_eq_true (inW r.length 2 5) with h3 | h3
      ·rw [h3, Bool.true_and] at h2
       have hb3 := inW_iff.1 h3
       obtain ⟨g, rfl⟩ : ∃ g, t = .sl (r.map .str) r.length g := by
        rcases hx with ⟨_, rfl⟩ | ⟨g, e⟩
        ·simp at hb3
        ·exact ⟨g, e⟩
       have hne : ¬ r.length = r0.length := by simpa using h2
       rcases hx0 with ⟨rfl, rfl⟩ | ⟨g0, rfl⟩
       have h3'' : ((r.length : Int) == 0) = false := by rw [beq_eq_false_iff_ne]; omega
       simp +decide -implicitDefEqProofs (maxSteps := 4000000) only [go_sem, ho, hlt, d1, h3, h0, d0, h3'', Nat.mul_one]
       rotate_left
       have h3'' : ((r.length : Int) == (r0.length : Int)) = false := by rw [beq_eq_false_iff_ne]; omega
       simp +decide -implicitDefEqProofs (maxSteps := 4000000) only [go_sem, ho, hlt, d1, h3, h0, d0, h3'', Nat.mul_one]
       all_goals
        refine pwpC_loopU (A := Unit) [0, 4] (fun _ => [(3, .t (.bool false)), (5, .t (.int .i64 0))]) (fun _ => []) (fun _ => 0) () (by decide) (fun _ => by rfl) ?_ fun Q2 hQ2 _ I2 hI2 => ?_
        ·simp +decide -implicitDefEqProofs (maxSteps := 4000000) only [go_sem]
        ·simp +decide -implicitDefEqProofs (maxSteps := 4000000) only [go_sem]
         refine hQ2 _ _ ?_
         simp +decide -implicitDefEqProofs (maxSteps := 4000000) only [go_sem]
         refine hI1 _ ⟨i + 1, by omega⟩ (by simp only; omega) ?_
         simp +decide -implicitDefEqProofs (maxSteps := 4000000) only [go_sem, hk1, hsucc]
      ·rcases hx with ⟨rfl, rfl⟩ | ⟨g, rfl⟩
       have h3' : inW 0 2 5 = false := rfl
       simp +decide -implicitDefEqProofs (maxSteps := 4000000) only [go_sem, ho, hlt, d1, h3', Nat.mul_one]
       rotate_left
       simp +decide -implicitDefEqProofs (maxSteps := 4000000) only [go_sem, ho, hlt, d1, h3, Nat.mul_one]
       all_goals
        refine pwpC_loopU (A := Unit) [0, 4] (fun _ => [(3, .t (.bool false)), (5, .t (.int .i64 0))]) (fun _ => []) (fun _ => 0) () (by decide) (fun _ => by rfl) ?_ fun Q2 hQ2 _ I2 hI2 => ?_
        ·simp +decide -implicitDefEqProofs (maxSteps := 4000000) only [go_sem]
        ·simp +decide -implicitDefEqProofs (maxSteps := 4000000) only [go_sem]
         refine hQ2 _ _ ?_
         simp +decide -implicitDefEqProofs (maxSteps := 4000000) only [go_sem]
         refine hI1 _ ⟨i + 1, by omega⟩ (by simp only; omega) ?_
         simp +decide -implicitDefEqProofs (maxSteps := 4000000) only [go_sem, hk1, hsucc]
     ·have h23 := h2
      simp only [Bool.and_eq_true] at h23
      obtain ⟨h3, h4⟩ := h23
      have hb3 := inW_iff.1 h3
      obtain ⟨g, rfl⟩ : ∃ g, t = .sl (r.map .str) r.length g := by
       rcases hx with ⟨_, rfl⟩ | ⟨g, e⟩
       ·simp at hb3
       ·exact ⟨g, e⟩
      have hrr : r.length = r0.length := by simpa using h4
      obtain ⟨g0, rfl⟩ : ∃ g, t0 = .sl (r0.map .str) r0.length g := by
       rcases hx0 with ⟨_, rfl⟩ | ⟨g, e⟩
       ·rw [List.length_nil] at hrr; omega
       ·exact ⟨g, e⟩
      have h3'' : ((r.length : Int) == (r0.length : Int)) = true := by rw [beq_iff_eq]; omega
      simp +decide -implicitDefEqProofs (maxSteps := 4000000) only [go_sem, ho, hlt, d1, h3, h0, d0, h3'', Nat.mul_one]
      refine pwpC_loopU (A := { k : Nat // k ≤ r.length }) [0, 4] (fun k => [(3, .t (.bool (okE r0.length r k.1))), (5, .t (.int .i64 k.1))]) (fun _ => []) (fun k => r.length - k.1) ⟨0, by omega⟩ (by decide) (fun _ => by rfl) ?_ fun Q2 hQ2 ⟨k, hk⟩ I2 hI2 => ?_
      ·have e : okE r0.length r 0 = true := by unfold okE; rw [h2]; rfl
       simp +decide -implicitDefEqProofs (maxSteps := 4000000) only [go_sem, e]
      ·rcases Bool.eq_false_or_eq_true (okE r0.length r k) with hok | hok
       rotate_left
       ·have e := okE_bad hok
        rw [e] at hsucc
        simp +decide -implicitDefEqProofs (maxSteps := 4000000) only [go_sem, hok]
        refine hQ2 _ _ ?_
        simp +decide -implicitDefEqProofs (maxSteps := 4000000) only [go_sem]
        refine hI1 _ ⟨i + 1, by omega⟩ (by simp only; omega) ?_
        simp +decide -implicitDefEqProofs (maxSteps := 4000000) only [go_sem, hk1, hsucc, hok]
       ·by_cases hlt2 : (k : Int) < r.length
        ·obtain ⟨x, hx⟩ : ∃ x, r[k]? = some x := ⟨_, List.getElem?_eq_getElem (by omega)⟩
         have dx := txs_at hx
         have hk2 := Go.Pm.wS (k := k) (by omega)
         have hes := okE_succ (w := r0.length) hx
         rw [hok, Bool.true_and] at hes
         simp +decide -implicitDefEqProofs (maxSteps := 4000000) only [go_sem, hok, hlt, d1, hlt2, dx, Nat.mul_one]
         refine hI2 _ ⟨k + 1, by omega⟩ (by simp only; omega) ?_
         simp +decide -implicitDefEqProofs (maxSteps := 4000000) only [go_sem, hk2, hes]
        ·have hke : k = r.length := by omega
         subst hke
         have e := okE_all r0.length r (Nat.le_refl _)
         rw [hok] at e
         rw [← e] at hsucc
         simp +decide -implicitDefEqProofs (maxSteps := 4000000) only [go_sem, hok, hlt, d1, hlt2, Nat.mul_one]
         refine hQ2 _ _ ?_
         simp +decide -implicitDefEqProofs (maxSteps := 4000000) only [go_sem]
         refine hI1 _ ⟨i + 1, by omega⟩ (by simp only; omega) ?_
         simp +decide -implicitDefEqProofs (maxSteps := 4000000) only [go_sem, hk1, hsucc, hok]
    ·have hie : i = p.length := by omega
     subst hie
     have hp : preB p = true := by rw [← okR_all p (Nat.le_refl _)]; exact ho
     have hv := hval hp
     simp +decide -implicitDefEqProofs (maxSteps := 4000000) only [go_sem, ho, hlt]
     refine hQ1 _ _ ?_
     rcases lostT_len L with ⟨h5, e⟩ | ⟨h5, e⟩
     ·have hd : decide (L.length ≤ 5) = true := by rw [decide_eq_true_eq]; omega
      rw [hd] at hv
      simp +decide -implicitDefEqProofs (maxSteps := 4000000) only [go_sem, ho, hp, e, hv]
     ·by_cases h6 : L.length ≤ 5
      ·have h7 : ¬ (L.length : Int) > 5 := by omega
       rw [decide_eq_true h6] at hv
       simp +decide -implicitDefEqProofs (maxSteps := 4000000) only [go_sem, ho, hp, e, hv, h7]
      ·have h7 : (L.length : Int) > 5 := by omega
       rw [decide_eq_false h6] at hv
       simp +decide -implicitDefEqProofs (maxSteps := 4000000) only [go_sem, ho, hp, e, hv, h7]
end Go.Proofs.YtdkboibnokipaaaDoor

namespace Go.Ow
open Go Go.RowKit Go.Pm
def dryN (s : ByteArray) : Nat → Int
 | 0 => 0
 | n + 1 => 10 * dryN s n + (((s.data.toList.getD n 0).toNat : Int) - 48)
theorem dry_ent {s : ByteArray} (hl : lostC s = 0) (i k : Nat) : ∀ n, n ≤ s.size → entN (fun _ => none) i k s n = dryN s n
 | 0, _ => rfl
 | n + 1, h => by
  have hb := bytes_len s
  unfold entN dryN
  rw [dry_ent hl i k n (by omega)]
  congr 1
  unfold digB
  rw [if_neg]
  intro e
  unfold lostC at hl
  rw [List.count_eq_zero] at hl
  refine hl ?_
  rw [← e, List.getD_eq_getElem?_getD, List.getElem?_eq_getElem (by omega)]
  exact List.getElem_mem _
theorem mem_le_sum {l : List Nat} {n : Nat} (h : n ∈ l) : n ≤ l.sum := by
 induction l with
 | nil => cases h
 | cons a l ih =>
  rw [List.sum_cons]
  rcases List.mem_cons.1 h with e | h
  ·omega
  ·have := ih h; omega
theorem dry_all {p : Pg} (h : placesP p = []) {r : List ByteArray} (hr : r ∈ p) {s : ByteArray} (hs : s ∈ r) : lostC s = 0 := by
 have h0 := places_len p
 rw [h] at h0
 have h1 : lostR r ≤ lostP p := mem_le_sum (List.mem_map.2 ⟨r, hr, rfl⟩)
 have h2 : lostC s ≤ lostR r := mem_le_sum (List.mem_map.2 ⟨s, hs, rfl⟩)
 simp at h0
 omega
theorem dry_byte {s : ByteArray} (he : entB s = true) (hl : lostC s = 0) {n : Nat} {x : UInt8} (hx : s.data.toList[n]? = some x) : 48 ≤ x.toNat ∧ x.toNat ≤ 57 := by
 have hlt := (List.getElem?_eq_some_iff.1 hx).1
 rw [bytes_len] at hlt
 have := entB_C he hlt
 rw [List.getD_eq_getElem?_getD, hx] at this
 unfold entC inW at this
 simp only [Option.getD_some, Bool.or_eq_true, beq_iff_eq, Bool.and_eq_true, decide_eq_true_eq] at this
 have h63 : ¬ (x.toNat : Int) = 63 := fun e => by
  unfold lostC at hl
  rw [List.count_eq_zero] at hl
  have e : x.toNat = 63 := by omega
  have : x = 63 := UInt8.toNat_inj.1 (by rw [e]; rfl)
  exact hl (this ▸ List.mem_of_getElem? hx)
 omega
end Go.Ow
namespace Go.Proofs.YtdkboibnokipaaaDoor
open Go.RowKit Go.Pm Go.Ow
theorem rValue_c (s : ByteArray) (he : entB s = true) (hl : lostC s = 0) : PCalls Tryd.prog 133 [.str s] (.int .i64 (dryN s s.size)) := by
 have hlen := bytes_len s
 have hsz := entB_size he
 refine pcalls_by Tryd.mixes (Spec.gdt_ok noSpec_ok) (fn := Tryd.f133) Tryd.func133 rfl (by kernel_rfl) (by show 1 ≤ _; decide) ?_
 simp +decide -implicitDefEqProofs (maxSteps := 4000000) only [go_sem, Tryd.f133]
 refine pwpC_loopU (A := { k : Nat // k ≤ s.size }) [0] (fun k => [(3, .t (.int .i64 (dryN s k.1))), (4, .t (.int .i64 k.1))]) (fun _ => []) (fun k => s.size - k.1) ⟨0, Nat.zero_le _⟩ (by decide) (fun _ => by rfl) ?_ fun Q1 hQ1 ⟨k, hk⟩ I1 hI1 => ?_
 ·simp +decide -implicitDefEqProofs (maxSteps := 4000000) only [go_sem, dryN]
 ·by_cases hlt : (k : Int) < s.size
  ·obtain ⟨x, hx⟩ : ∃ x, s.data.toList[k]? = some x := ⟨_, List.getElem?_eq_getElem (by omega)⟩
   have hg : s.data.getD k 0 = x := by
    have : s.data[k]? = some x := by rw [← Array.getElem?_toList]; exact hx
    simp [this]
   have hk1 := Go.Pm.wS (k := k) (by omega)
   have hb := dry_byte he hl hx
   have hd := entN_5 DOk_none (i := 0) (k := 0) he (show k ≤ s.size by omega)
   rw [dry_ent hl 0 0 k (by omega)] at hd
   have hw1 : IntKind.u8.wrap ((x.toNat : Int) - 48) = (x.toNat : Int) - 48 := by rw [IntKind.wrap_u8]; omega
   have hw2 : IntKind.i64.wrap ((x.toNat : Int) - 48) = (x.toNat : Int) - 48 := wrap_in (by omega) (by omega)
   have hw3 : IntKind.i64.wrap (10 * dryN s k) = 10 * dryN s k := wrap_in (by omega) (by omega)
   have hw4 : IntKind.i64.wrap (10 * dryN s k + ((x.toNat : Int) - 48)) = dryN s (k + 1) := by
    rw [wrap_in (by omega) (by omega), dryN, List.getD_eq_getElem?_getD, hx]; rfl
   simp +decide -implicitDefEqProofs (maxSteps := 4000000) only [go_sem, hlt, hg, hw1, hw2, hw3, hw4]
   refine hI1 _ ⟨k + 1, by omega⟩ (by simp only; omega) ?_
   simp +decide -implicitDefEqProofs (maxSteps := 4000000) only [go_sem, hk1]
  ·have hke : k = s.size := by omega
   subst hke
   simp +decide -implicitDefEqProofs (maxSteps := 4000000) only [go_sem, hlt]
   refine hQ1 _ _ ?_
   simp +decide -implicitDefEqProofs (maxSteps := 4000000) only [go_sem]
noncomputable def rfValue : List TV → Option TV
 | [.str s] => if entB s = true ∧ lostC s = 0 then some (.int .i64 (dryN s s.size)) else none
 | _ => none
theorem rfValue_ok : ∀ xs r, rfValue xs = some r → PCalls Tryd.prog 133 xs r := by
 intro xs r h
 unfold rfValue at h
 split at h
 ·split at h
  ·rename_i hc; cases h; exact rValue_c _ hc.1 hc.2
  ·cases h
 ·cases h
attribute [go_sem] rfValue
noncomputable def spWv : Pm.Spec := (noSpec.one 133 rfValue).gdt
theorem spWv_ok : SpecOk Tryd.prog spWv := Spec.gdt_ok (Spec.one_ok rfValue_ok noSpec_ok)
theorem rAgrees_c {s : TV} {p : Pg} (hs : pgR s p) (hv : validB p = true) (hL : placesP p = []) : PCalls Tryd.prog 115 [s] (.bool (agE p (fun _ => none))) := by
 have hok := (valid_iff.1 hv).1
 have hpl := hok.1
 obtain ⟨W, hW⟩ : ∃ W, wideP p = W := ⟨_, rfl⟩
 have hW2 : 2 ≤ W ∧ W ≤ 5 := by
  have h := hok.2.1 0 (by omega)
  rw [← hW, ← h.2]; exact h.1
 obtain ⟨rs, f, rfl, hrl, hrs⟩ := page_rows2 hs hok
 -- an entry
 have hent : ∀ i k, i < p.length → k < W → ∃ r g x, p[i]? = some r ∧ rs.drop i = .sl (r.map .str) r.length g :: rs.drop (i + 1) ∧ r.length = W ∧ (r.map TV.str).drop k = .str x :: (r.map TV.str).drop (k + 1) ∧ entB x = true ∧ lostC x = 0 ∧ dryN x x.size = valN (fun _ => none) p i k ∧ 0 ≤ valN (fun _ => none) p i k ∧ valN (fun _ => none) p i k < 100000 := fun i k hi hk => by
  obtain ⟨r, hr⟩ : ∃ r, p[i]? = some r := ⟨_, List.getElem?_eq_getElem hi⟩
  obtain ⟨t, ht⟩ : ∃ t, rs[i]? = some t := ⟨_, List.getElem?_eq_getElem (by omega)⟩
  obtain ⟨g, rfl⟩ := hrs i r t hr ht
  have er : rowA p i = r := by unfold rowA; rw [List.getD_eq_getElem?_getD, hr]; rfl
  have hrow := hok.2.1 i hi
  rw [er, hW] at hrow
  obtain ⟨x, hx⟩ : ∃ x, r[k]? = some x := ⟨_, List.getElem?_eq_getElem (by omega)⟩
  have ex : entA r k = x := by unfold entA; rw [List.getD_eq_getElem?_getD, hx]; rfl
  have hex := (valid_row hv hr).2.2 x (List.mem_of_getElem? hx)
  have hlx := dry_all hL (List.mem_of_getElem? hr) (List.mem_of_getElem? hx)
  have hve : valN (fun _ => none) p i k = dryN x x.size := by
   unfold valN
   rw [er, ex]
   exact dry_ent hlx i k _ (Nat.le_refl _)
  have h5 := entN_5 DOk_none (i := i) (k := k) hex (Nat.le_refl _)
  rw [dry_ent hlx i k _ (Nat.le_refl _)] at h5
  exact ⟨r, g, x, hr, tv_at ht, hrow.2, txs_at hx, hex, hlx, hve.symm, by rw [hve]; exact h5.1, by rw [hve]; exact h5.2⟩
 have hbr : ∀ i n, i < p.length → n ≤ W → 0 ≤ sumN (fun k => valN (fun _ => none) p i k) n ∧ sumN (fun k => valN (fun _ => none) p i k) n ≤ n * 100000 := fun i n hi hn => sumN_le n fun k hk => by
  obtain ⟨_, _, _, _, _, _, _, _, _, _, h1, h2⟩ := hent i k hi (by omega)
  exact ⟨h1, h2⟩
 have hbc : ∀ k n, k < W → n ≤ p.length → 0 ≤ sumN (fun i => valN (fun _ => none) p i k) n ∧ sumN (fun i => valN (fun _ => none) p i k) n ≤ n * 100000 := fun k n hk hn => sumN_le n fun i hi => by
  obtain ⟨_, _, _, _, _, _, _, _, _, _, h1, h2⟩ := hent i k (by omega) hk
  exact ⟨h1, h2⟩
 obtain ⟨R, hR⟩ : ∃ R, agE p (fun _ => none) = R := ⟨_, rfl⟩
 have hbad1 : ∀ i, i < p.length → rowB (fun _ => none) p i = false → R = false := fun i hi h => by
  rw [← hR]; unfold agE
  have : (List.range p.length).all (rowB (fun _ => none) p) = false := by
   rw [List.all_eq_false]; exact ⟨i, List.mem_range.2 hi, by rw [h]; decide⟩
  rw [this]; rfl
 have hbad2 : ∀ k, k < W → colB (fun _ => none) p k = false → R = false := fun k hk h => by
  rw [← hR]; unfold agE colsB
  have : (List.range (wideP p)).all (colB (fun _ => none) p) = false := by
   rw [List.all_eq_false]; exact ⟨k, List.mem_range.2 (by rw [hW]; exact hk), by rw [h]; decide⟩
  rw [this]; simp
 have hgood : (∀ i, i < p.length → rowB (fun _ => none) p i = true) → (∀ k, k < W → colB (fun _ => none) p k = true) → R = true := fun h1 h2 => by
  rw [← hR]; unfold agE colsB
  rw [Bool.and_eq_true, List.all_eq_true, List.all_eq_true]
  exact ⟨fun i hi => h1 i (List.mem_range.1 hi), fun k hk => h2 k (by have := List.mem_range.1 hk; rw [hW] at this; exact this)⟩
 have hrowB : ∀ i, rowB (fun _ => none) p i = (sumN (fun k => valN (fun _ => none) p i k) (W - 1) == valN (fun _ => none) p i (W - 1)) := fun i => by unfold rowB; rw [hW]
 have hcolB : ∀ k, colB (fun _ => none) p k = (sumN (fun i => valN (fun _ => none) p i k) (p.length - 1) == valN (fun _ => none) p (p.length - 1) k) := fun k => rfl
 rw [hR]
 obtain ⟨r0, g0, x0, hr0, d0, hr0l, _⟩ := hent 0 0 (by omega) (by omega)
 have h0 : (0 : Int) < p.length := by omega
 have hwW : IntKind.i64.wrap ((W : Int) - 1) = ((W - 1 : Nat) : Int) := by rw [wrap_in (by omega) (by omega)]; omega
 have hwP : IntKind.i64.wrap ((p.length : Int) - 1) = ((p.length - 1 : Nat) : Int) := by rw [wrap_in (by omega) (by omega)]; omega
 refine pcalls_by Tryd.mixes spWv_ok (fn := Tryd.f115) Tryd.func115 rfl (by kernel_rfl) (by show 1 ≤ _; decide) ?_
 simp +decide -implicitDefEqProofs (maxSteps := 4000000) only [go_sem, Tryd.f115, spWv, h0, d0, hr0l]
 refine pwpC_loopU (A := { i : Nat // i ≤ p.length ∧ ∀ j, j < i → rowB (fun _ => none) p j = true }) [0, 3, 4] (fun i => [(5, .t (.int .i64 i.1))]) (fun _ => []) (fun i => p.length - i.1) ⟨0, by omega, fun j h => absurd h (by omega)⟩ (by decide) (fun _ => by rfl) ?_ fun Q1 hQ1 ⟨i, hi, hall⟩ I1 hI1 => ?_
 ·simp +decide -implicitDefEqProofs (maxSteps := 4000000) only [go_sem, spWv]
 ·by_cases hlt : (i : Int) < p.length
  ·have hk1 := Go.Pm.wS (k := i) (by omega)
   simp +decide -implicitDefEqProofs (maxSteps := 4000000) only [go_sem, spWv, hlt]
   refine pwpC_loopU (A := { k : Nat // k + 1 ≤ W }) [0, 3, 4, 5] (fun k => [(7, .t (.int .i64 k.1)), (6, .t (.int .i64 (sumN (fun k => valN (fun _ => none) p i k) k.1)))]) (fun _ => []) (fun k => W - k.1) ⟨0, by omega⟩ (by decide) (fun _ => by rfl) ?_ fun Q2 hQ2 ⟨k, hk⟩ I2 hI2 => ?_
   ·simp +decide -implicitDefEqProofs (maxSteps := 4000000) only [go_sem, spWv, sumN]
   ·have hk2 := Go.Pm.wS (k := k) (by omega)
    by_cases hlt2 : ((k + 1 : Nat) : Int) < W
    ·obtain ⟨r, g, x, hr, d1, hrw, d2, he, hl, hvx, hv0, hv1⟩ := hent i k (by omega) (by omega)
     have hlt3 : (k : Int) < W := by omega
     have hs1 := hbr i k (by omega) (by omega)
     have hsum : IntKind.i64.wrap (sumN (fun k => valN (fun _ => none) p i k) k + valN (fun _ => none) p i k) = sumN (fun k => valN (fun _ => none) p i k) (k + 1) := by rw [wrap_in (by omega) (by omega)]; rfl
     simp +decide -implicitDefEqProofs (maxSteps := 4000000) only [go_sem, spWv, hk2, hlt, hlt2, d1, hrw, hlt3, d2, he, hl, hvx, hsum, Nat.mul_one]
     refine hI2 _ ⟨k + 1, by omega⟩ (by simp only; omega) ?_
     simp +decide -implicitDefEqProofs (maxSteps := 4000000) only [go_sem, spWv, hk2]
    ·have hke : k = W - 1 := by omega
     obtain ⟨r, g, x, hr, d1, hrw, d2, he, hl, hvx, hv0, hv1⟩ := hent i (W - 1) (by omega) (by omega)
     have hlt3 : ((W - 1 : Nat) : Int) < W := by omega
     have hrb := hrowB i
     rw [← hke] at hrb hwW d2 hvx hlt3
     obtain ⟨m1, hm1⟩ : ∃ m, sumN (fun k => valN (fun _ => none) p i k) k = m := ⟨_, rfl⟩
     obtain ⟨m2, hm2⟩ : ∃ m, valN (fun _ => none) p i k = m := ⟨_, rfl⟩
     rw [hm1, hm2] at hrb
     rw [hm2] at hvx
     simp +decide -implicitDefEqProofs (maxSteps := 4000000) only [go_sem, spWv, hk2, hlt2, hm1]
     refine hQ2 _ _ ?_
     rcases Bool.eq_false_or_eq_true (m1 == m2) with hc | hc
     ·have hc2 : (m1 != m2) = false := by rw [bne, hc]; rfl
      rw [hc] at hrb
      simp +decide -implicitDefEqProofs (maxSteps := 4000000) only [go_sem, spWv, hlt, d1, hrw, hwW, hlt3, d2, he, hl, hvx, hc2, Nat.mul_one]
      refine hI1 _ ⟨i + 1, by omega, fun j hj => ?_⟩ (by simp only; omega) ?_
      ·by_cases e : j = i
       ·subst e; exact hrb
       ·exact hall j (by omega)
      ·simp +decide -implicitDefEqProofs (maxSteps := 4000000) only [go_sem, spWv, hk1]
     ·have hc2 : (m1 != m2) = true := by rw [bne, hc]; rfl
      rw [hc] at hrb
      have hRf := hbad1 i (by omega) hrb
      simp +decide -implicitDefEqProofs (maxSteps := 4000000) only [go_sem, spWv, hlt, d1, hrw, hwW, hlt3, d2, he, hl, hvx, hc2, Nat.mul_one]
      refine hQ1 _ _ ?_
      simp +decide -implicitDefEqProofs (maxSteps := 4000000) only [go_sem, spWv, hRf]
  ·have hie : i = p.length := by omega
   subst hie
   simp +decide -implicitDefEqProofs (maxSteps := 4000000) only [go_sem, spWv, hlt]
   refine hQ1 _ _ ?_
   simp +decide -implicitDefEqProofs (maxSteps := 4000000) only [go_sem, spWv]
   refine pwpC_loopU (A := { k : Nat // k ≤ W ∧ ∀ j, j < k → colB (fun _ => none) p j = true }) [0, 3, 4] (fun k => [(8, .t (.int .i64 k.1))]) (fun _ => []) (fun k => W - k.1) ⟨0, by omega, fun j h => absurd h (by omega)⟩ (by decide) (fun _ => by rfl) ?_ fun Q3 hQ3 ⟨k, hk, hallc⟩ I3 hI3 => ?_
   ·simp +decide -implicitDefEqProofs (maxSteps := 4000000) only [go_sem, spWv]
   ·by_cases hltk : (k : Int) < W
    ·have hk1 := Go.Pm.wS (k := k) (by omega)
     simp +decide -implicitDefEqProofs (maxSteps := 4000000) only [go_sem, spWv, hltk]
     refine pwpC_loopU (A := { i : Nat // i + 1 ≤ p.length }) [0, 3, 4, 8] (fun i => [(10, .t (.int .i64 i.1)), (9, .t (.int .i64 (sumN (fun i => valN (fun _ => none) p i k) i.1)))]) (fun _ => []) (fun i => p.length - i.1) ⟨0, by omega⟩ (by decide) (fun _ => by rfl) ?_ fun Q4 hQ4 ⟨i, hi4⟩ I4 hI4 => ?_
     ·simp +decide -implicitDefEqProofs (maxSteps := 4000000) only [go_sem, spWv, sumN]
     ·have hi2 := Go.Pm.wS (k := i) (by omega)
      by_cases hlt2 : ((i + 1 : Nat) : Int) < p.length
      ·obtain ⟨r, g, x, hr, d1, hrw, d2, he, hl, hvx, hv0, hv1⟩ := hent i k (by omega) (by omega)
       have hlt3 : (i : Int) < p.length := by omega
       have hs1 := hbc k i (by omega) (by omega)
       have hsum : IntKind.i64.wrap (sumN (fun i => valN (fun _ => none) p i k) i + valN (fun _ => none) p i k) = sumN (fun i => valN (fun _ => none) p i k) (i + 1) := by rw [wrap_in (by omega) (by omega)]; rfl
       simp +decide -implicitDefEqProofs (maxSteps := 4000000) only [go_sem, spWv, hi2, hlt2, hltk, d1, hrw, hlt3, d2, he, hl, hvx, hsum, Nat.mul_one]
       refine hI4 _ ⟨i + 1, by omega⟩ (by simp only; omega) ?_
       simp +decide -implicitDefEqProofs (maxSteps := 4000000) only [go_sem, spWv, hi2]
      ·have hie : i = p.length - 1 := by omega
       obtain ⟨r, g, x, hr, d1, hrw, d2, he, hl, hvx, hv0, hv1⟩ := hent (p.length - 1) k (by omega) (by omega)
       have hlt3 : ((p.length - 1 : Nat) : Int) < p.length := by omega
       have hrb := hcolB k
       rw [← hie] at hrb hwP d1 hvx hlt3
       obtain ⟨m1, hm1⟩ : ∃ m, sumN (fun i => valN (fun _ => none) p i k) i = m := ⟨_, rfl⟩
       obtain ⟨m2, hm2⟩ : ∃ m, valN (fun _ => none) p i k = m := ⟨_, rfl⟩
       rw [hm1, hm2] at hrb
       rw [hm2] at hvx
       simp +decide -implicitDefEqProofs (maxSteps := 4000000) only [go_sem, spWv, hi2, hlt2, hm1]
       refine hQ4 _ _ ?_
       rcases Bool.eq_false_or_eq_true (m1 == m2) with hc | hc
       ·have hc2 : (m1 != m2) = false := by rw [bne, hc]; rfl
        rw [hc] at hrb
        simp +decide -implicitDefEqProofs (maxSteps := 4000000) only [go_sem, spWv, hltk, d1, hrw, hwP, hlt3, d2, he, hl, hvx, hc2, Nat.mul_one]
        refine hI3 _ ⟨k + 1, by omega, fun j hj => ?_⟩ (by simp only; omega) ?_
        ·by_cases e : j = k
         ·subst e; exact hrb
         ·exact hallc j (by omega)
        ·simp +decide -implicitDefEqProofs (maxSteps := 4000000) only [go_sem, spWv, hk1]
       ·have hc2 : (m1 != m2) = true := by rw [bne, hc]; rfl
        rw [hc] at hrb
        have hRf := hbad2 k (by omega) hrb
        simp +decide -implicitDefEqProofs (maxSteps := 4000000) only [go_sem, spWv, hltk, d1, hrw, hwP, hlt3, d2, he, hl, hvx, hc2, Nat.mul_one]
        refine hQ3 _ _ ?_
        simp +decide -implicitDefEqProofs (maxSteps := 4000000) only [go_sem, spWv, hRf]
    ·have hke : k = W := by omega
     subst hke
     have hRt := hgood hall hallc
     simp +decide -implicitDefEqProofs (maxSteps := 4000000) only [go_sem, spWv, hltk]
     refine hQ3 _ _ ?_
     simp +decide -implicitDefEqProofs (maxSteps := 4000000) only [go_sem, spWv, hRt]
end Go.Proofs.YtdkboibnokipaaaDoor

namespace Go.Proofs.YtdkboibnokipaaaDoor
open Go.RowKit Go.Pm Go.Ow
theorem allO_ts (cs : List TV) : allO ((cs.map PV.t).map PV.toT) = some cs := by
 induction cs with
 | nil => rfl
 | cons c cs ih => simp only [List.map_cons, allO, PV.toT, ih, Option.map_some]
section
variable (g : FuncId) (xs : List TV) (ps : List PV) (hl : List PO) (Y : YS) (t : TypeId)
end
end Go.Proofs.YtdkboibnokipaaaDoor

namespace Go.Proofs.YtdkboibnokipaaaDoor
open Go.RowKit Go.Pm Go.Ow
def smallP (p : List (List ByteArray)) : Prop := p.length ≤ 140737488355328 ∧ ∀ l ∈ p, l.length ≤ 140737488355328
open Classical in
noncomputable def rSmT : List TV → Option TV
 | [s, t] => if h : ∃ p q, pgR s p ∧ pgR t q ∧ smallP p then some (.bool (decide (Classical.choose h = Classical.choose (Classical.choose_spec h)))) else none
 | _ => none
open Classical in
theorem rSmT_of {s t : TV} {p q : List (List ByteArray)} (h1 : pgR s p) (h2 : pgR t q) (hl : smallP p) : rSmT [s, t] = some (.bool (decide (p = q))) := by
 have h : ∃ p q, pgR s p ∧ pgR t q ∧ smallP p := ⟨p, q, h1, h2, hl⟩
 have hs := Classical.choose_spec (Classical.choose_spec h)
 have e1 := pgR_inj hs.1 h1
 have e2 := pgR_inj hs.2.1 h2
 show (if h : ∃ p q, pgR s p ∧ pgR t q ∧ smallP p then some (TV.bool (decide (Classical.choose h = Classical.choose (Classical.choose_spec h)))) else none) = _
 rw [dif_pos h]
 have : decide (Classical.choose h = Classical.choose (Classical.choose_spec h)) = decide (p = q) := decide_eq_decide.2 ⟨fun e => e1.symm.trans (e.trans e2), fun e => e1.trans (e.trans e2.symm)⟩
 rw [this]
open Classical in
theorem rSmT_ok : ∀ a r, rSmT a = some r → PCalls Tryd.prog 16 a r := by
 intro a r e
 unfold rSmT at e
 split at e
 ·split at e
  ·rename_i h
   cases e
   have hs := Classical.choose_spec (Classical.choose_spec h)
   exact rSamePages_c hs.1 hs.2.1 hs.2.2.1 hs.2.2.2
  ·cases e
 ·cases e
theorem small_nil : smallP [] := ⟨by simp, by simp⟩
end Go.Proofs.YtdkboibnokipaaaDoor

namespace Go.Ow
open Go Go.RowKit Go.Pm
def cellF (f : Nat → Nat → Nat) (a : Nat) : List TV := ((List.range 50).map fun j => TV.int .i64 ((f (j / 10) (j % 10) : Nat) : Int)) ++ [.int .i64 (a : Int)]
theorem cellF_len (f : Nat → Nat → Nat) (a : Nat) : (cellF f a).length = 51 := by unfold cellF; simp
theorem cellF_get (f : Nat → Nat → Nat) (a j : Nat) (hj : j < 50) : (cellF f a)[j]? = some (.int .i64 ((f (j / 10) (j % 10) : Nat) : Int)) := by
 unfold cellF
 rw [List.getElem?_append_left (by simpa using hj), List.getElem?_map, List.getElem?_range hj]; rfl
theorem cellF_at (f : Nat → Nat → Nat) (a : Nat) {k e : Nat} (hk : k < 5) (he : e < 10) : (cellF f a)[k * 10 + e]? = some (.int .i64 ((f k e : Nat) : Int)) := by
 rw [cellF_get f a _ (by omega), show (k * 10 + e) / 10 = k by omega, show (k * 10 + e) % 10 = e by omega]
theorem cellF_all (f : Nat → Nat → Nat) (a : Nat) : (cellF f a)[50]? = some (.int .i64 (a : Int)) := by
 unfold cellF
 rw [List.getElem?_append_right (by simp)]
 simp
theorem cellF_congr {f g : Nat → Nat → Nat} {a b : Nat} (hab : a = b) (h : ∀ k e, k < 5 → e < 10 → f k e = g k e) : cellF f a = cellF g b := by
 subst hab
 unfold cellF
 congr 1
 refine List.map_congr_left fun j hj => ?_
 have := List.mem_range.1 hj
 rw [h _ _ (by omega) (by omega)]
theorem cellF_inj {f g : Nat → Nat → Nat} {a b : Nat} (h : cellF f a = cellF g b) : a = b ∧ ∀ k e, k < 5 → e < 10 → f k e = g k e := by
 constructor
 ·have := cellF_all f a
  rw [h, cellF_all] at this
  simp only [Option.some.injEq, TV.int.injEq, true_and] at this
  omega
 ·intro k e hk he
  have := cellF_at f a hk he
  rw [h, cellF_at _ _ hk he] at this
  simp only [Option.some.injEq, TV.int.injEq, true_and] at this
  omega
theorem cellF_set (f : Nat → Nat → Nat) (a : Nat) {k e v : Nat} (hk : k < 5) (he : e < 10) : (cellF f a).set (k * 10 + e) (.int .i64 (v : Int)) = cellF (fun k' e' => if k' = k ∧ e' = e then v else f k' e') a := by
 apply List.ext_getElem?
 intro j
 rw [List.getElem?_set, cellF_len]
 by_cases h1 : j < 50
 ·rw [cellF_get _ _ j h1, cellF_get _ _ j h1]
  by_cases hj : k * 10 + e = j
  ·subst hj
   rw [if_pos rfl, if_pos (by omega), if_pos ⟨by omega, by omega⟩]
  ·rw [if_neg hj, if_neg (by omega)]
 ·rw [if_neg (by omega)]
  by_cases h2 : j = 50
  ·subst h2; rw [cellF_all, cellF_all]
  ·rw [List.getElem?_eq_none (by rw [cellF_len]; omega), List.getElem?_eq_none (by rw [cellF_len]; omega)]
theorem cellF_seta (f : Nat → Nat → Nat) (a b : Nat) : (cellF f a).set 50 (.int .i64 (b : Int)) = cellF f b := by
 apply List.ext_getElem?
 intro j
 rw [List.getElem?_set, cellF_len]
 by_cases h1 : j < 50
 ·rw [if_neg (by omega), cellF_get _ _ j h1, cellF_get _ _ j h1]
 ·by_cases h2 : 50 = j
  ·subst h2; rw [if_pos rfl, if_pos (by omega), cellF_all]
  ·rw [if_neg h2, List.getElem?_eq_none (by rw [cellF_len]; omega), List.getElem?_eq_none (by rw [cellF_len]; omega)]
def cntN (n : Nat) (ys : List (List Int)) (k : Nat) (d : Int) : Nat := if k < n then cntD ys k d else 0
def cntA (n : Nat) (ys : List (List Int)) : List TV := cellF (fun k e => cntN n ys k (e : Int)) ys.length
theorem cntD_app (ys zs : List (List Int)) (k : Nat) (d : Int) : cntD (ys ++ zs) k d = cntD ys k d + cntD zs k d := List.countP_append ..
theorem cntA_app {n : Nat} {ys zs xs : List (List Int)} (h : cntA n ys = cntA n zs) : cntA n (ys ++ xs) = cntA n (zs ++ xs) := by
 obtain ⟨h1, h2⟩ := cellF_inj h
 refine cellF_congr (by rw [List.length_append, List.length_append, h1]) fun k e hk he => ?_
 have := h2 k e hk he
 unfold cntN at this ⊢
 split
 ·rename_i hkn
  rw [if_pos hkn, if_pos hkn] at this
  rw [cntD_app, cntD_app, this]
 ·rfl
theorem cntA_0 (n : Nat) : cntA n [] = List.replicate 51 (.int .i64 0) := by
 apply List.ext_getElem?
 intro j
 rw [List.getElem?_replicate]
 unfold cntA
 by_cases h1 : j < 50
 ·rw [cellF_get _ _ j h1, if_pos (by omega)]
  unfold cntN
  split <;> rfl
 ·by_cases h2 : j = 50
  ·subst h2; rw [cellF_all, if_pos (by omega)]; rfl
  ·rw [List.getElem?_eq_none (by rw [cellF_len]; omega), if_neg (by omega)]
def cntX (n : Nat) (ys : List (List Int)) (g : List Int) (i : Nat) : List TV := cellF (fun k e => cntN n ys k (e : Int) + if k < i ∧ g.getD k 0 = (e : Int) then 1 else 0) ys.length
theorem cntX_0 (n : Nat) (ys : List (List Int)) (g : List Int) : cntX n ys g 0 = cntA n ys := cellF_congr rfl fun k e _ _ => by rw [if_neg (by omega), Nat.add_zero]
theorem cntX_get {n : Nat} {ys : List (List Int)} {g : List Int} {i e : Nat} (hi : i < 5) (he : e < 10) : (cntX n ys g i)[i * 10 + e]? = some (.int .i64 ((cntN n ys i (e : Int) : Nat) : Int)) := by
 unfold cntX
 rw [cellF_at _ _ hi he, if_neg (by omega)]; rfl
theorem cntX_set {n : Nat} {ys : List (List Int)} {g : List Int} {i e : Nat} (hi : i < 5) (he : e < 10) (hg : g.getD i 0 = (e : Int)) : (cntX n ys g i).set (i * 10 + e) (.int .i64 ((cntN n ys i (e : Int) + 1 : Nat) : Int)) = cntX n ys g (i + 1) := by
 unfold cntX
 rw [cellF_set _ _ hi he]
 refine cellF_congr rfl fun k d hk hd => ?_
 by_cases h1 : k = i ∧ d = e
 ·obtain ⟨rfl, rfl⟩ := h1
  rw [if_pos ⟨rfl, rfl⟩, if_pos ⟨by omega, hg⟩]
 ·rw [if_neg h1]
  by_cases h2 : k < i
  ·by_cases h3 : g.getD k 0 = (d : Int)
   ·rw [if_pos ⟨h2, h3⟩, if_pos ⟨by omega, h3⟩]
   ·rw [if_neg fun h => h3 h.2, if_neg fun h => h3 h.2]
  ·rw [if_neg fun h => h2 h.1, if_neg fun h => ?_]
   have hki : k = i := by omega
   subst hki
   rw [hg] at h
   exact h1 ⟨rfl, by omega⟩
theorem cntX_all {n : Nat} {ys : List (List Int)} {g : List Int} : (cntX n ys g n).set 50 (.int .i64 ((ys.length + 1 : Nat) : Int)) = cntA n (ys ++ [g]) := by
 unfold cntX
 rw [cellF_seta]
 refine cellF_congr (by rw [List.length_append]; rfl) fun k e _ _ => ?_
 unfold cntN
 by_cases hk : k < n
 ·rw [if_pos hk, if_pos hk, cntD_snoc]
  by_cases h : g.getD k 0 = (e : Int)
  ·rw [if_pos ⟨hk, h⟩, if_pos h]
  ·rw [if_neg fun x => h x.2, if_neg h]
 ·rw [if_neg hk, if_neg hk, if_neg fun x => hk x.1]
def setAll : Pg → List Pl → List Int → Pg
 | q, a :: M, d :: ds => setAll (setP q a d) M ds
 | q, _, _ => q
def newC (q : Pg) (M : List Pl) (pre : List Int) : List (List Int) := ((cands q M).filter fun ds => agE (setAll q M ds) (fun _ => none)).map fun ds => pre ++ ds
theorem cands_congr {p q : Pg} (h : shp p = shp q) : ∀ L, cands p L = cands q L
 | [] => rfl
 | a :: L => by unfold cands; rw [shp_first h, cands_congr h L]
theorem newC_nil (q : Pg) (pre : List Int) : newC q [] pre = if agE q (fun _ => none) = true then [pre] else [] := by
 unfold newC cands
 rw [List.filter_cons]
 show (List.map _ (if agE q (fun _ => none) = true then _ else _)) = _
 split
 ·simp
 ·simp
theorem newC_cons (q : Pg) (a : Pl) (M : List Pl) (pre : List Int) : newC q (a :: M) pre = (List.range 10).flatMap fun (d : Nat) => if d = 0 ∧ firstB q a = true then [] else newC (setP q a (d : Int)) M (pre ++ [(d : Int)]) := by
 unfold newC
 rw [show cands q (a :: M) = (List.range 10).flatMap fun (d : Nat) => if d = 0 ∧ firstB q a = true then [] else (cands q M).map fun g => (d : Int) :: g from rfl, flatMap_if]
 refine flatMap_cong fun d _ => ?_
 split
 ·rfl
 ·rw [List.filter_map, List.map_map, cands_congr (set_shp q a (d : Int)) M]
  refine List.map_congr_left fun g _ => ?_
  show pre ++ ((d : Int) :: g) = pre ++ [(d : Int)] ++ g
  rw [List.append_assoc]; rfl
theorem flat_le {f : Nat → List (List Int)} {m : Nat} (h : ∀ d, (f d).length ≤ m) : ∀ k, ((List.range k).flatMap f).length ≤ k * m
 | 0 => by simp
 | k + 1 => by
  have := flat_le h k
  have := h k
  rw [List.range_succ, List.flatMap_append, List.length_append, Nat.add_mul]
  simp only [List.flatMap_cons, List.flatMap_nil, List.append_nil]
  omega
theorem newC_len : ∀ (M : List Pl) (q : Pg) (pre : List Int), (newC q M pre).length ≤ 10 ^ M.length
 | [], q, pre => by
  rw [newC_nil]
  split <;> simp
 | a :: M, q, pre => by
  rw [newC_cons, List.length_cons, Nat.pow_succ, Nat.mul_comm]
  refine flat_le (fun d => ?_) 10
  split
  ·simp
  ·exact newC_len M _ _
theorem setAll_fix : ∀ (L : List Pl) (g : List Int) (p : Pg), L.Nodup → (∀ a ∈ L, inP p a) → g.length = L.length → setAll p L g = fixP (asgD L g) p
 | [], [], p, _, _, _ => by
  refine page_ext (fix_shp _ _).symm fun a ha => ?_
  rw [show setAll p [] [] = p from rfl] at ha ⊢
  rw [fix_by _ _ ha]; rfl
 | [], _ :: _, _, _, _, h => by cases h
 | _ :: _, [], _, _, _, h => by cases h
 | a :: L, d :: g, p, hn, hin, hl => by
  have hn' := List.nodup_cons.1 hn
  have ih := setAll_fix L g (setP p a d) hn'.2 (fun b hb => (shp_in (set_shp p a d) b).2 (hin b (List.mem_cons_of_mem _ hb))) (by simpa using hl)
  show setAll (setP p a d) L g = _
  rw [ih]
  refine page_ext ((fix_shp _ _).trans ((set_shp p a d).trans (fix_shp _ _).symm)) fun b hb => ?_
  rw [shp_in (fix_shp _ _)] at hb
  have hb2 := (shp_in (set_shp p a d) b).1 hb
  rw [fix_by _ _ hb, fix_by _ _ hb2, set_by p a d hb2]
  show _ = fixB (updD (asgD L g) a d) b (byA p b)
  unfold fixB updD
  by_cases e : b = a
  ·subst e
   rw [asgD_out hn'.1, if_pos rfl, if_pos rfl]
  ·rw [if_neg e, if_neg e]
theorem newC_read {p : Pg} (hv : validB p = true) : newC p (placesP p) [] = readG p := by
 have hv' := valid_iff.1 hv
 have hn := places_nodup p
 unfold newC
 rw [readG_eq]
 have : ∀ g ∈ cands p (placesP p), agE (setAll p (placesP p) g) (fun _ => none) = agE p (asgD (placesP p) g) := fun g hg => by
  rw [setAll_fix _ _ _ hn (fun a ha => (mem_places_iff.1 ha).1) (mem_cands.1 hg).1]
  exact ag_fix (asg_ok hg) hv'.1 (fun a ha e => (asg_at hg ha).1 e) fun a ha e => (asg_at hg ha).2 e
 rw [List.filter_congr this]
 have h2 : ∀ l : List (List Int), l.map (fun ds => [] ++ ds) = l := fun l => by simp
 rw [h2]
def dgR (X : TV) (pre : List Int) : Prop := (X = .nilSl ∧ pre = []) ∨ ∃ f, X = .sl (pre.map (.int .i64)) pre.length f
end Go.Ow

namespace Go.Proofs.YtdkboibnokipaaaDoor
open Go.RowKit Go.Pm Go.Ow
theorem rPlus_c {X : TV} {pre : List Int} (hX : dgR X pre) (h5 : pre.length ≤ 5) (d : Int) : PCalls Tryd.prog 116 [X, .int .i64 d] (.sl ((pre ++ [d]).map (.int .i64)) (pre ++ [d]).length false) := by
 obtain ⟨R, hR⟩ : ∃ R, TV.sl ((pre ++ [d]).map (.int .i64)) (pre ++ [d]).length false = R := ⟨_, rfl⟩
 rw [hR]
 refine pcalls_by Tryd.mixes noSpec_ok (fn := Tryd.f116) Tryd.func116 rfl (by kernel_rfl) (by show 2 ≤ _; decide) ?_
 rcases hX with ⟨rfl, rfl⟩ | ⟨f, rfl⟩
 ·simp +decide -implicitDefEqProofs (maxSteps := 4000000) only [go_sem, Tryd.f116, ← hR, List.nil_append, List.map_cons, List.map_nil, List.length_cons, List.length_nil]
 ·by_cases h0 : pre.length = 0
  ·have hn : pre = [] := List.length_eq_zero_iff.1 h0
   subst hn
   simp +decide -implicitDefEqProofs (maxSteps := 4000000) only [go_sem, Tryd.f116, ← hR, List.nil_append, List.map_cons, List.map_nil, List.length_cons, List.length_nil]
  ·have hro : (0 + pre.length) * 8 ≤ 140737488355328 := by omega
   have hro1 : pre.length * 8 ≤ 140737488355328 := by omega
   have hro2 : (pre.length + 1) * 8 ≤ 140737488355328 := by omega
   have hl : (pre.map (TV.int .i64)).length = pre.length := List.length_map _
   have hR2 : R = .sl (pre.map (.int .i64) ++ [.int .i64 d]) (pre.length + 1) false := by rw [← hR]; simp
   simp +decide -implicitDefEqProofs (maxSteps := 4000000) only [go_sem, Tryd.f116, h0, hro, hro1, hro2, hl, hR2, Nat.zero_add, Nat.mul_one, List.nil_append]
open Classical in
noncomputable def rfWithQ (s : TV) (q : Pg) (a : Pl) : List TV → Option TV
 | [t, pl, .int .u8 v] => if t = s ∧ pl = plT a ∧ 48 ≤ v then some (pgF (setP q a (v - 48))) else none
 | _ => none
theorem rfWithQ_ok {s : TV} {q : Pg} {a : Pl} (hs : pgR s q) (hok : shpOk q) (ha : inP q a) : ∀ xs r, rfWithQ s q a xs = some r → PCalls Tryd.prog 37 xs r := by
 intro xs r h
 unfold rfWithQ at h
 split at h
 ·rename_i t pl v
  split at h
  ·rename_i hc
   obtain ⟨rfl, rfl, h0⟩ := hc
   cases h
   have := rWith_c hs hok ha (d := v - 48) (by omega)
   rw [show 48 + (v - 48) = v by omega] at this
   exact this
  ·cases h
 ·cases h
open Classical in
theorem rfWithQ_of (s : TV) (q : Pg) (a : Pl) {d : Int} (h : 0 ≤ d) : rfWithQ s q a [s, .agg [.int .i64 a.1, .int .i64 a.2.1, .int .i64 a.2.2], .int .u8 (48 + d)] = some (pgF (setP q a d)) := by
 show (if s = s ∧ TV.agg [.int .i64 a.1, .int .i64 a.2.1, .int .i64 a.2.2] = plT a ∧ 48 ≤ 48 + d then some (pgF (setP q a (48 + d - 48))) else none) = _
 rw [if_pos ⟨rfl, rfl, by omega⟩, show 48 + d - 48 = d by omega]
open Classical in
noncomputable def rfPlusQ (X : TV) (pre : List Int) : List TV → Option TV
 | [t, .int .i64 d] => if t = X then some (.sl ((pre ++ [d]).map (.int .i64)) (pre ++ [d]).length false) else none
 | _ => none
theorem rfPlusQ_ok {X : TV} {pre : List Int} (hX : dgR X pre) (h5 : pre.length ≤ 5) : ∀ xs r, rfPlusQ X pre xs = some r → PCalls Tryd.prog 116 xs r := by
 intro xs r h
 unfold rfPlusQ at h
 split at h
 ·split at h
  ·rename_i hc; subst hc; cases h; exact rPlus_c hX h5 _
  ·cases h
 ·cases h
open Classical in
theorem rfPlusQ_of (X : TV) (pre : List Int) (d : Int) : rfPlusQ X pre [X, .int .i64 d] = some (.sl ((pre ++ [d]).map (.int .i64)) (pre ++ [d]).length false) := by
 show (if X = X then some (TV.sl ((pre ++ [d]).map (.int .i64)) (pre ++ [d]).length false) else none) = _
 rw [if_pos rfl]
def ctIn (q : Pg) (a : Pl) (L : List Pl) (pre : List Int) (x : Nat × List (List Int)) : List TV := [pgF (setP q a (x.1 : Int)), lostT L, .sl ((pre ++ [(x.1 : Int)]).map (.int .i64)) (pre ++ [(x.1 : Int)]).length false, .agg (cntA L.length x.2)]
def ctOk (q : Pg) (a : Pl) (m : Nat) (x : Nat × List (List Int)) : Prop := x.1 < 10 ∧ ¬ (x.1 = 0 ∧ firstB q a = true) ∧ x.2.length + m ≤ 1000000
open Classical in
noncomputable def rfCt (q : Pg) (a : Pl) (L M : List Pl) (pre : List Int) (m : Nat) : List TV → Option TV := fun xs =>
 if h : ∃ x : Nat × List (List Int), xs = ctIn q a L pre x ∧ ctOk q a m x then some (.agg (cntA L.length ((Classical.choose h).2 ++ newC (setP q a ((Classical.choose h).1 : Int)) M (pre ++ [((Classical.choose h).1 : Int)])))) else none
theorem rfCt_of {q : Pg} {a : Pl} {L M : List Pl} {pre : List Int} {m : Nat} (d : Nat) (ys : List (List Int)) (h : ctOk q a m (d, ys)) : rfCt q a L M pre m [pgF (setP q a (d : Int)), lostT L, .sl ((pre ++ [(d : Int)]).map (.int .i64)) (pre ++ [(d : Int)]).length false, .agg (cntA L.length ys)] = some (.agg (cntA L.length (ys ++ newC (setP q a (d : Int)) M (pre ++ [(d : Int)])))) := by
 have hx : ∃ x : Nat × List (List Int), [pgF (setP q a (d : Int)), lostT L, .sl ((pre ++ [(d : Int)]).map (.int .i64)) (pre ++ [(d : Int)]).length false, .agg (cntA L.length ys)] = ctIn q a L pre x ∧ ctOk q a m x := ⟨(d, ys), rfl, h⟩
 unfold rfCt
 rw [dif_pos hx]
 have he := (Classical.choose_spec hx).1
 obtain ⟨y, hy⟩ : ∃ y, Classical.choose hx = y := ⟨_, rfl⟩
 rw [hy] at he ⊢
 unfold ctIn at he
 simp only [List.cons.injEq, TV.sl.injEq, TV.agg.injEq, and_true, true_and] at he
 obtain ⟨_, ⟨h2, _⟩, h3⟩ := he
 have hd : (d : Int) = (y.1 : Int) := by
  rw [List.map_append, List.map_append] at h2
  have := List.append_cancel_left h2
  simpa using this
 rw [← hd, cntA_app h3]
theorem rfCt_ok {q : Pg} {a : Pl} {L M : List Pl} {pre : List Int} {m : Nat} (hall : ∀ d ys, ctOk q a m (d, ys) → PCalls Tryd.prog 87 (ctIn q a L pre (d, ys)) (.agg (cntA L.length (ys ++ newC (setP q a (d : Int)) M (pre ++ [(d : Int)]))))) : ∀ xs r, rfCt q a L M pre m xs = some r → PCalls Tryd.prog 87 xs r := by
 intro xs r h
 unfold rfCt at h
 split at h
 ·rename_i hx
  cases h
  have hs := Classical.choose_spec hx
  obtain ⟨y, hy⟩ : ∃ y, Classical.choose hx = y := ⟨_, rfl⟩
  rw [hy] at hs ⊢
  rw [hs.1]
  exact hall _ _ hs.2
 ·cases h
noncomputable def spCt (s : TV) (q : Pg) (a : Pl) (L M : List Pl) (X : TV) (pre : List Int) (m : Nat) : Pm.Spec := ((noSpec.one 37 (rfWithQ s q a)).one 116 (rfPlusQ X pre)).one 87 (rfCt q a L M pre m)
theorem agg_ts (cs : List TV) : aggP false (cs.map PV.t) = .t (.agg cs) := by
 unfold aggP
 rw [allO_ts]; rfl
theorem get_ts {cs : List TV} {i : Nat} {v : TV} (h : cs[i]? = some v) : (cs.map PV.t)[i]? = some (.t v) := by rw [List.getElem?_map, h]; rfl
theorem rCountedL_c {s X : TV} {q : Pg} {L : List Pl} {pre : List Int} (hs : pgR s q) (hv : validB q = true) (hq : placesP q = []) (hX : dgR X pre) (hl : pre.length = L.length) (hL : L.length ≤ 5) (hpre : ∀ (k : Nat) (d : Int), pre[k]? = some d → 0 ≤ d ∧ d ≤ 9) (ys : List (List Int)) (hy : ys.length ≤ 1000000) : PCalls Tryd.prog 87 [s, lostT L, X, .agg (cntA L.length ys)] (.agg (cntA L.length (ys ++ newC q [] pre))) := by
 have hA := rAgrees_c hs hv hq
 rw [newC_nil]
 obtain ⟨n, hn⟩ : ∃ n, L.length = n := ⟨_, rfl⟩
 have hlt : lostT L = if n = 0 then .nilSl else .sl (L.flatMap plC) n false := by unfold lostT; rw [hn]
 rw [hn] at hl hL ⊢
 obtain ⟨cs, hcs⟩ : ∃ cs, cntA n ys = cs := ⟨_, rfl⟩
 have hcl : cs.length = 51 := by rw [← hcs]; exact cellF_len _ _
 have hcm : (cs.map PV.t).length = 51 := by rw [List.length_map, hcl]
 have htk : ∀ cs : List TV, cs.length = 51 → (cs.map PV.t).take 51 = cs.map PV.t ∧ (cs.map PV.t).drop 51 = [] := fun cs h => ⟨List.take_of_length_le (by rw [List.length_map, h]; exact Nat.le_refl _), List.drop_eq_nil_of_le (by rw [List.length_map, h]; exact Nat.le_refl _)⟩
 obtain ⟨t1, t2⟩ := htk cs hcl
 have ha := agg_ts cs
 have hao := allO_ts cs
 rw [hcs]
 rcases Bool.eq_false_or_eq_true (agE q (fun _ => none)) with hg | hg
 rotate_left
 ·rw [if_neg (by rw [hg]; decide), List.append_nil, hcs]
  rw [hg] at hA
  refine pcalls_by Tryd.mixes (Spec.gdt_ok (Spec.one_ok (oneP_ok hA) noSpec_ok)) (fn := Tryd.f87) Tryd.func87 rfl (by kernel_rfl) (by show 4 ≤ _; decide) ?_
  by_cases h0 : n = 0
  ·have hp0 : pre = [] := List.length_eq_zero_iff.1 (by omega)
   rw [hlt, if_pos h0]
   rcases hX with ⟨rfl, _⟩ | ⟨f, rfl⟩
   ·simp +decide -implicitDefEqProofs (maxSteps := 4000000) only [go_sem, Tryd.f87, hcl, hcm, t1, t2, ha, hao]
   ·have hz : ((pre.length : Int) == 0) = true := by rw [hl, h0]; rfl
    simp +decide -implicitDefEqProofs (maxSteps := 4000000) only [go_sem, Tryd.f87, hz, hcl, hcm, t1, t2, ha, hao]
  ·rw [hlt, if_neg h0]
   rcases hX with ⟨_, rfl⟩ | ⟨f, rfl⟩
   ·rw [List.length_nil] at hl; omega
   ·have hz : ((pre.length : Int) == (n : Int)) = true := by rw [hl]; simp
    simp +decide -implicitDefEqProofs (maxSteps := 4000000) only [go_sem, Tryd.f87, hz, hcl, hcm, t1, t2, ha, hao]
 ·rw [if_pos hg]
  rw [hg] at hA
  obtain ⟨ce, hce⟩ : ∃ ce, cntA n (ys ++ [pre]) = ce := ⟨_, rfl⟩
  have hcel : ce.length = 51 := by rw [← hce]; exact cellF_len _ _
  obtain ⟨u1, u2⟩ := htk ce hcel
  have ua := agg_ts ce
  have hcem : (ce.map PV.t).length = 51 := by rw [List.length_map, hcel]
  have uao := allO_ts ce
  have hx0 := cntX_0 n ys pre
  have hxl : ∀ i, (cntX n ys pre i).length = 51 := fun i => cellF_len _ _
  have hxa : (cntX n ys pre n)[50]? = some (.int .i64 (ys.length : Int)) := cellF_all _ _
  have hxs := cntX_all (n := n) (ys := ys) (g := pre)
  have hst := set_ts (cntX n ys pre n) 50 (.int .i64 ((ys.length + 1 : Nat) : Int)) (by rw [hxl]; omega)
  rw [hxs, hce] at hst
  rw [hce]
  have hga := get_ts hxa
  have hyw : IntKind.i64.wrap ((ys.length : Int) + 1) = ((ys.length + 1 : Nat) : Int) := by rw [wrap_in (by omega) (by omega)]; omega
  have hxm : ∀ i, ((cntX n ys pre i).map PV.t).length = 51 := fun i => by rw [List.length_map, hxl]
  refine pcalls_by Tryd.mixes (Spec.gdt_ok (Spec.one_ok (oneP_ok hA) noSpec_ok)) (fn := Tryd.f87) Tryd.func87 rfl (by kernel_rfl) (by show 4 ≤ _; decide) ?_
  by_cases h0 : n = 0
  ·have hp0 : pre = [] := List.length_eq_zero_iff.1 (by omega)
   subst h0
   rw [hlt, if_pos rfl]
   rw [hx0, hcs] at hst hga hxs
   have hcw := fun l => cellsW_ts l cs
   have hau := fun e => all_ts e cs
   rcases hX with ⟨rfl, _⟩ | ⟨f, rfl⟩
   have hz2 : ¬ (0 : Int) < 0 := by decide
   simp +decide -implicitDefEqProofs (maxSteps := 4000000) only [go_sem, Tryd.f87, hcl, hcm]
   rotate_left
   have hz : ((pre.length : Int) == 0) = true := by rw [hl]; rfl
   have hz2 : ¬ (0 : Int) < pre.length := by rw [hl]; decide
   simp +decide -implicitDefEqProofs (maxSteps := 4000000) only [go_sem, Tryd.f87, hz, hcl, hcm]
   all_goals
    refine pwpC_loopU (A := Unit) [0, 1, 2, 7, 8] (fun _ => [(9, .t (.int .i64 0))]) (fun _ => []) (fun _ => 0) () (by decide) (fun _ => by rfl) ?_ fun Q1 hQ1 ⟨⟩ I1 hI1 => ?_
    ·simp +decide -implicitDefEqProofs (maxSteps := 4000000) only [go_sem, hcw, hau]
    ·simp +decide -implicitDefEqProofs (maxSteps := 4000000) only [go_sem, hz2]
     refine hQ1 _ _ ?_
     simp +decide -implicitDefEqProofs (maxSteps := 4000000) only [go_sem, hga, hyw, hst, hcl, hcm, hcel, hcem, u1, u2, ua, uao]
  ·rw [hlt, if_neg h0]
   rcases hX with ⟨_, rfl⟩ | ⟨f, rfl⟩
   ·rw [List.length_nil] at hl; omega
   ·have hz : ((pre.length : Int) == (n : Int)) = true := by rw [hl]; simp
    simp +decide -implicitDefEqProofs (maxSteps := 4000000) only [go_sem, Tryd.f87, hz, hcl, hcm]
    refine pwpC_loopU (A := { i : Nat // i ≤ n }) [0, 1, 2, 7, 8] (fun i => [(9, .t (.int .i64 i.1))]) (fun i => [(0, .box ((cntX n ys pre i.1).map .t))]) (fun i => n - i.1) ⟨0, by omega⟩ (by decide) (fun _ => by rfl) ?_ fun Q1 hQ1 ⟨i, hi⟩ I1 hI1 => ?_
    ·have hcw := fun l => cellsW_ts l cs
     have hau := fun e => all_ts e cs
     simp +decide -implicitDefEqProofs (maxSteps := 4000000) only [go_sem, hx0, hcs, hcw, hau]
    ·by_cases hlt2 : (i : Int) < pre.length
     ·obtain ⟨d, hd⟩ : ∃ d, pre[i]? = some d := ⟨_, List.getElem?_eq_getElem (by omega)⟩
      have hd9 := hpre i d hd
      obtain ⟨e, rfl⟩ : ∃ e : Nat, d = (e : Int) := ⟨d.toNat, by omega⟩
      have hgd : pre.getD i 0 = (e : Int) := by rw [List.getD_eq_getElem?_getD, hd]; rfl
      have hi5 : i < 5 := by omega
      have he10 : e < 10 := by omega
      have dx : (pre.map (TV.int .i64)).drop i = .int .i64 (e : Int) :: (pre.map (TV.int .i64)).drop (i + 1) := by
       rw [List.drop_eq_getElem_cons (by rw [List.length_map]; omega), List.getElem_map]
       have := List.getElem?_eq_getElem (show i < pre.length by omega)
       rw [hd] at this
       rw [← Option.some.inj this]
      have hgx := get_ts (cntX_get (n := n) (ys := ys) (g := pre) hi5 he10)
      have hk1 := Go.Pm.wS (k := i) (by omega)
      have hcb : cntN n ys i (e : Int) ≤ ys.length := by
       unfold cntN
       split
       ·exact cntD_le _ _ _
       ·exact Nat.zero_le _
      have hw : IntKind.i64.wrap ((cntN n ys i (e : Int) : Int) + 1) = ((cntN n ys i (e : Int) + 1 : Nat) : Int) := by rw [wrap_in (by omega) (by omega)]; omega
      have hse := set_ts (cntX n ys pre i) (i * 10 + e) (.int .i64 ((cntN n ys i (e : Int) + 1 : Nat) : Int)) (by rw [hxl]; omega)
      rw [cntX_set hi5 he10 hgd] at hse
      have b1 : (i : Int) < 5 := by omega
      have b2 : (e : Int) < 10 := by omega
      have b3 : i * 10 + e < 51 := by omega
      have b4 : i * 10 + e + 1 ≤ 51 := by omega
      have hcw := fun l => cellsW_ts l (cntX n ys pre (i + 1))
      have hau := fun e => all_ts e (cntX n ys pre (i + 1))
      simp +decide -implicitDefEqProofs (maxSteps := 4000000) only [go_sem, hlt2, dx, b1, b2, b3, b4, hgx, hw, hse, hxm, Nat.mul_one]
      refine hI1 _ ⟨i + 1, by omega⟩ (by simp only; omega) ?_
      simp +decide -implicitDefEqProofs (maxSteps := 4000000) only [go_sem, hk1, hcw, hau]
     ·have hie : i = n := by omega
      subst hie
      simp +decide -implicitDefEqProofs (maxSteps := 4000000) only [go_sem, hlt2]
      refine hQ1 _ _ ?_
      simp +decide -implicitDefEqProofs (maxSteps := 4000000) only [go_sem, hga, hyw, hst, hxm, hcel, hcem, u1, u2, ua, uao]
end Go.Proofs.YtdkboibnokipaaaDoor

namespace Go.Proofs.YtdkboibnokipaaaDoor
open Go.RowKit Go.Pm Go.Ow
theorem rCounted_c (L : List Pl) (hL : L.length ≤ 5) : ∀ (M : List Pl) {s X : TV} {q : Pg} {pre : List Int}, pgR s q → validB q = true → placesP q = M → dgR X pre → L.drop pre.length = M → pre.length + M.length = L.length → (∀ (k : Nat) (d : Int), pre[k]? = some d → 0 ≤ d ∧ d ≤ 9) → ∀ ys : List (List Int), ys.length + 10 ^ M.length ≤ 1000000 → PCalls Tryd.prog 87 [s, lostT L, X, .agg (cntA L.length ys)] (.agg (cntA L.length (ys ++ newC q M pre)))
 | [], s, X, q, pre, hs, hv, hq, hX, _, hl, hpre, ys, hy => rCountedL_c hs hv hq hX (by simpa using hl) hL hpre ys (by rw [List.length_nil, Nat.pow_zero] at hy; omega)
 | a :: M, s, X, q, pre, hs, hv, hq, hX, hd, hl, hpre, ys, hy => by
  have hok := (valid_iff.1 hv).1
  have hain : inP q a := (mem_places_iff.1 (by rw [hq]; exact List.mem_cons_self)).1
  rw [List.length_cons] at hl
  rw [List.length_cons, Nat.pow_succ] at hy
  obtain ⟨m, hm⟩ : ∃ m, 10 ^ M.length = m := ⟨_, rfl⟩
  rw [hm] at hy
  have hLa : L[pre.length]? = some a := by
   have := List.getElem?_drop (xs := L) (i := pre.length) (j := 0)
   rw [hd] at this
   rw [Nat.add_zero] at this
   exact this.symm
  have hd2 : L.drop (pre.length + 1) = M := by
   rw [show pre.length + 1 = pre.length + 1 from rfl, ← List.drop_drop, hd]; rfl
  have hrec : ∀ (d : Nat) (zs : List (List Int)), ctOk q a m (d, zs) → PCalls Tryd.prog 87 (ctIn q a L pre (d, zs)) (.agg (cntA L.length (zs ++ newC (setP q a (d : Int)) M (pre ++ [(d : Int)])))) := fun d zs ⟨h1, h2, h3⟩ => by
   refine rCounted_c L hL M (pgF_R _) ((set_valid hv hain (by omega) (by omega)).2 fun h => h2 ⟨by have := h.2; omega, h.1⟩) (places_cons hq (by omega) (by omega)) (.inr ⟨false, rfl⟩) (by rw [List.length_append, List.length_singleton]; exact hd2) (by rw [List.length_append, List.length_singleton]; omega) (fun k e he => ?_) zs (by rw [hm]; exact h3)
   by_cases hk : k < pre.length
   ·rw [List.getElem?_append_left hk] at he; exact hpre k e he
   ·rw [List.getElem?_append_right (by omega)] at he
    have h1' : d < 10 := h1
    cases hkk : k - pre.length with
    | zero => rw [hkk] at he; cases he; omega
    | succ j => rw [hkk] at he; cases he
  have hsp : SpecOk Tryd.prog (spCt s q a L M X pre m) := Spec.one_ok (rfCt_ok hrec) (Spec.one_ok (rfPlusQ_ok hX (by omega)) (Spec.one_ok (rfWithQ_ok hs hok hain) noSpec_ok))
  obtain ⟨up, hupd⟩ : ∃ up : Nat → List (List Int), up = fun d => (List.range d).flatMap fun (d : Nat) => if d = 0 ∧ firstB q a = true then [] else newC (setP q a (d : Int)) M (pre ++ [(d : Int)]) := ⟨_, rfl⟩
  have hup0 : up 0 = [] := by rw [hupd]; rfl
  have hup10 : newC q (a :: M) pre = up 10 := by rw [hupd]; exact newC_cons q a M pre
  have hup_s : ∀ d, up (d + 1) = up d ++ if d = 0 ∧ firstB q a = true then [] else newC (setP q a (d : Int)) M (pre ++ [(d : Int)]) := fun d => by
   rw [hupd]
   simp only
   rw [List.range_succ, List.flatMap_append]
   simp
  have hup : ∀ d, (up d).length ≤ d * m := fun d => by
   rw [hupd]
   refine flat_le (fun e => ?_) d
   split
   ·simp
   ·rw [← hm]; exact newC_len _ _ _
  rw [hup10]
  have hlT : lostT L = .sl (L.flatMap plC) L.length false := by unfold lostT; rw [if_neg (by omega)]
  have hpa := plC_at hLa
  rw [show plC a = [.int .i64 a.1, .int .i64 a.2.1, .int .i64 a.2.2] from rfl] at hpa
  have hfl := plC_len L
  obtain ⟨rs, f, rfl, hrl, hrs⟩ := page_rows2 hs hok
  obtain ⟨r, hr⟩ : ∃ r, q[a.1]? = some r := ⟨_, List.getElem?_eq_getElem hain.1⟩
  obtain ⟨t, ht⟩ : ∃ t, rs[a.1]? = some t := ⟨_, List.getElem?_eq_getElem (by have := hain.1; omega)⟩
  obtain ⟨g, rfl⟩ := hrs a.1 r t hr ht
  have er : rowA q a.1 = r := by unfold rowA; rw [List.getD_eq_getElem?_getD, hr]; rfl
  have hk2 := hain.2.1
  rw [er] at hk2
  obtain ⟨x, hx⟩ : ∃ x, r[a.2.1]? = some x := ⟨_, List.getElem?_eq_getElem hk2⟩
  have ex : entA r a.2.1 = x := by unfold entA; rw [List.getD_eq_getElem?_getD, hx]; rfl
  have hfB : firstB q a = (a.2.2 == 0 && decide (1 < x.size)) := by unfold firstB; rw [er, ex]
  have d1 := tv_at ht
  have d2 := txs_at hx
  have b0 : (a.1 : Int) < q.length := by have := hain.1; omega
  have b1 : (a.2.1 : Int) < r.length := by omega
  have hsz := (hok.2.2 a.1 a.2.1 hain.1 (by rw [er]; exact hk2))
  obtain ⟨cs, hcs⟩ : ∃ cs, cntA L.length ys = cs := ⟨_, rfl⟩
  have hcl : cs.length = 51 := by rw [← hcs]; exact cellF_len _ _
  rw [hcs]
  obtain ⟨ce, hce10⟩ : ∃ ce, cntA L.length (ys ++ up 10) = ce := ⟨_, rfl⟩
  rw [hce10]
  have hcel : ce.length = 51 := by rw [← hce10]; exact cellF_len _ _
  have hpl : pre.length < L.length := by omega
  have hpl2 : (pre.length : Int) < L.length := by omega
  have hcm : (cs.map PV.t).length = 51 := by rw [List.length_map, hcl]
  rw [hlT]
  refine pcalls_by Tryd.mixes (Spec.gdt_ok hsp) (fn := Tryd.f87) Tryd.func87 rfl (by kernel_rfl) (by show 4 ≤ _; decide) ?_
  have hlen0 : (0 : Int) < L.length := by omega
  have kpA := rfPlusQ_of X pre
  rcases hX with ⟨rfl, hp⟩ | ⟨fx, rfl⟩
  have hp0 : pre.length = 0 := by rw [hp]; rfl
  have hz0 : ((0 : Int) == (L.length : Int)) = false := by rw [beq_eq_false_iff_ne]; omega
  have hpa2 := hpa
  rw [hp0, Nat.zero_mul] at hpa2
  simp +decide -implicitDefEqProofs (maxSteps := 4000000) only [go_sem, Tryd.f87, spCt, hz0, hlen0, hpa2, hfl, hcl, hcm, Nat.mul_one]
  rotate_left
  have hz0 : ((pre.length : Int) == (L.length : Int)) = false := by rw [beq_eq_false_iff_ne]; omega
  simp +decide -implicitDefEqProofs (maxSteps := 4000000) only [go_sem, Tryd.f87, spCt, hz0, hpl2, hpa, hfl, hcl, hcm, Nat.mul_one]
  all_goals
   refine pwpC_loopU (A := { d : Nat // d ≤ 10 }) [0, 1, 2, 7, 8, 10] (fun d => [(11, .t (.int .i64 d.1))]) (fun d => [(0, .box ((cntA L.length (ys ++ up d.1)).map .t))]) (fun d => 10 - d.1) ⟨0, by omega⟩ (by decide) (fun _ => by rfl) ?_ fun Q1 hQ1 ⟨d, hd10⟩ I1 hI1 => ?_
   ·have hcw := fun l => cellsW_ts l cs
    have hau := fun e => all_ts e cs
    simp +decide -implicitDefEqProofs (maxSteps := 4000000) only [go_sem, spCt, hup0, List.append_nil, hcs, hcw, hau]
   ·by_cases hlt : (d : Int) < 10
    ·have hk1 := Go.Pm.wS (k := d) (by omega)
     have hw1 : IntKind.i64.wrap (48 + (d : Int)) = 48 + d := wrap_in (by omega) (by omega)
     have hw2 : IntKind.u8.wrap (48 + (d : Int)) = 48 + d := by rw [IntKind.wrap_u8]; omega
     have kw := rfWithQ_of (.sl rs q.length f) q a (d := (d : Int)) (by omega)
     have kp := kpA (d : Int)
     obtain ⟨cd, hcd⟩ : ∃ c, cntA L.length (ys ++ up d) = c := ⟨_, rfl⟩
     have hcdl : cd.length = 51 := by rw [← hcd]; exact cellF_len _ _
     have hcdm : (cd.map PV.t).length = 51 := by rw [List.length_map, hcdl]
     have t1 : (cd.map PV.t).take 51 = cd.map PV.t := List.take_of_length_le (by omega)
     have t2 : (cd.map PV.t).drop 51 = [] := List.drop_eq_nil_of_le (by omega)
     have hag := agg_ts cd
     have hao := allO_ts cd
     have hupl := hup d
     have hdm : d * m ≤ 9 * m := Nat.mul_le_mul_right _ (by omega)
     by_cases hno : d = 0 ∧ firstB q a = true
     ·obtain ⟨rfl, hf⟩ := hno
      have hs1 := hup_s 0
      rw [if_pos ⟨rfl, hf⟩, List.append_nil] at hs1
      rw [hfB, Bool.and_eq_true, beq_iff_eq, decide_eq_true_eq] at hf
      have c2 : ((a.2.2 : Int) == 0) = true := by rw [hf.1]; rfl
      have c3 : (x.size : Int) > 1 := by omega
      have hcw := fun l => cellsW_ts l cd
      have hau := fun e => all_ts e cd
      simp +decide -implicitDefEqProofs (maxSteps := 4000000) only [go_sem, spCt, c2, b0, d1, b1, d2, c3, hcd, hcdl, hcdm, Nat.mul_one]
      refine hI1 _ ⟨1, by omega⟩ (by simp only; omega) ?_
      simp +decide -implicitDefEqProofs (maxSteps := 4000000) only [go_sem, hk1, hs1, hcd, hcw, hau]
     ·have kc := rfCt_of (q := q) (a := a) (L := L) (M := M) (pre := pre) (m := m) d (ys ++ up d) ⟨by omega, hno, by rw [List.length_append]; omega⟩
      rw [hcd] at kc
      obtain ⟨cn, hcn⟩ : ∃ c, cntA L.length (ys ++ up (d + 1)) = c := ⟨_, rfl⟩
      have hce : cntA L.length (ys ++ up d ++ newC (setP q a (d : Int)) M (pre ++ [(d : Int)])) = cn := by rw [← hcn, hup_s d, if_neg hno, List.append_assoc]
      rw [hce] at kc
      have hcnl : cn.length = 51 := by rw [← hcn]; exact cellF_len _ _
      have hcnm : (cn.map PV.t).length = 51 := by rw [List.length_map, hcnl]
      have hcw := fun l => cellsW_ts l cn
      have hau := fun e => all_ts e cn
      obtain ⟨W, hW⟩ : ∃ W, pgF (setP q a (d : Int)) = W := ⟨_, rfl⟩
      rw [hW] at kw kc
      obtain ⟨D, hD⟩ : ∃ D, TV.sl ((pre ++ [(d : Int)]).map (.int .i64)) (pre ++ [(d : Int)]).length false = D := ⟨_, rfl⟩
      rw [hD] at kp kc
      rw [hlT] at kc
      by_cases h1 : d = 0
      ·subst h1
       have kw0 : rfWithQ (.sl rs q.length f) q a [.sl rs q.length f, .agg [.int .i64 a.1, .int .i64 a.2.1, .int .i64 a.2.2], .int .u8 48] = some W := kw
       have kp0 := kpA 0
       have hD0 : TV.sl ((pre ++ [0]).map (.int .i64)) (pre ++ [0]).length false = D := hD
       rw [hD0] at kp0
       have w1 : IntKind.i64.wrap 48 = 48 := rfl
       have w2 : IntKind.u8.wrap 48 = 48 := rfl
       by_cases h2 : a.2.2 = 0
       ·have c2 : ((a.2.2 : Int) == 0) = true := by rw [h2]; rfl
        have c3 : ¬ (x.size : Int) > 1 := fun h => hno ⟨rfl, by rw [hfB, h2]; simp; omega⟩
        simp +decide -implicitDefEqProofs (maxSteps := 4000000) only [go_sem, spCt, w1, w2, kw0, kp0, c2, b0, d1, b1, d2, c3, hw1, hw2, kw, kp, kc, hcd, hcdl, hcdm, t1, t2, hag, hao, hcnl, hcnm, Nat.mul_one]
        refine hI1 _ ⟨1, by omega⟩ (by simp only; omega) ?_
        simp +decide -implicitDefEqProofs (maxSteps := 4000000) only [go_sem, hk1, hcn, hcw, hau]
       ·have c2 : ((a.2.2 : Int) == 0) = false := by rw [beq_eq_false_iff_ne]; omega
        simp +decide -implicitDefEqProofs (maxSteps := 4000000) only [go_sem, spCt, w1, w2, kw0, kp0, c2, hw1, hw2, kw, kp, kc, hcd, hcdl, hcdm, t1, t2, hag, hao, hcnl, hcnm, Nat.mul_one]
        refine hI1 _ ⟨1, by omega⟩ (by simp only; omega) ?_
        simp +decide -implicitDefEqProofs (maxSteps := 4000000) only [go_sem, hk1, hcn, hcw, hau]
      ·have c1 : ((d : Int) == 0) = false := by rw [beq_eq_false_iff_ne]; omega
       simp +decide -implicitDefEqProofs (maxSteps := 4000000) only [go_sem, spCt, hlt, c1, hw1, hw2, kw, kp, kc, hcd, hcdl, hcdm, t1, t2, hag, hao, hcnl, hcnm, Nat.mul_one]
       refine hI1 _ ⟨d + 1, by omega⟩ (by simp only; omega) ?_
       simp +decide -implicitDefEqProofs (maxSteps := 4000000) only [go_sem, hk1, hcn, hcw, hau]
    ·have hde : d = 10 := by omega
     subst hde
     have t1 : (ce.map PV.t).take 51 = ce.map PV.t := List.take_of_length_le (by rw [List.length_map]; omega)
     have t2 : (ce.map PV.t).drop 51 = [] := List.drop_eq_nil_of_le (by rw [List.length_map]; omega)
     have hcem : (ce.map PV.t).length = 51 := by rw [List.length_map, hcel]
     have hag := agg_ts ce
     have hao := allO_ts ce
     simp +decide -implicitDefEqProofs (maxSteps := 4000000) only [go_sem, spCt, hce10]
     refine hQ1 _ _ ?_
     simp +decide -implicitDefEqProofs (maxSteps := 4000000) only [go_sem, spCt, hce10, hcel, hcem, t1, t2, hag, hao]
theorem rCount_c {s : TV} {p : Pg} (hs : pgR s p) (hv : validB p = true) : PCalls Tryd.prog 54 [s] (.agg (cntA (placesP p).length (readG p))) := by
 have hv' := valid_iff.1 hv
 have hLs := rLost_c hs hv'.1
 have hC := rCounted_c (placesP p) hv'.2.2 (placesP p) (pre := []) (X := .nilSl) hs hv rfl (.inl ⟨rfl, rfl⟩) rfl (by simp) (fun k d h => by simp at h) [] (by
  have h2 : 10 ^ (placesP p).length ≤ 10 ^ 5 := Nat.pow_le_pow_right (by decide) hv'.2.2
  rw [List.length_nil]; omega)
 rw [newC_read hv, List.nil_append, cntA_0] at hC
 obtain ⟨n, hn⟩ : ∃ n, (placesP p).length = n := ⟨_, rfl⟩
 rw [hn] at hC ⊢
 obtain ⟨cs, hcs⟩ : ∃ cs, cntA n (readG p) = cs := ⟨_, rfl⟩
 have hcl : cs.length = 51 := by rw [← hcs]; exact cellF_len _ _
 rw [hcs] at hC ⊢
 obtain ⟨T, hT⟩ : ∃ T, lostT (placesP p) = T := ⟨_, rfl⟩
 rw [hT] at hC hLs
 have hcm : (cs.map PV.t).length = 51 := by rw [List.length_map, hcl]
 have t1 : (cs.map PV.t).take 51 = cs.map PV.t := List.take_of_length_le (by omega)
 have t2 : (cs.map PV.t).drop 51 = [] := List.drop_eq_nil_of_le (by omega)
 have hag := agg_ts cs
 have hao := allO_ts cs
 refine pcalls_by Tryd.mixes (Spec.one_ok (oneP_ok hLs) (Spec.one_ok (oneP_ok hC) noSpec_ok)) (fn := Tryd.f54) Tryd.func54 rfl (by kernel_rfl) (by show 1 ≤ _; decide) ?_
 simp +decide -implicitDefEqProofs (maxSteps := 4000000) only [go_sem, Tryd.f54, hcl, hcm, t1, t2, hag, hao, List.replicate]
end Go.Proofs.YtdkboibnokipaaaDoor

namespace Go.Ow
open Go Go.RowKit Go.Pm
theorem cnt_sure {ys : List (List Int)} {k : Nat} {d : Int} (hne : ys ≠ []) : cntD ys k d = ys.length ↔ sureB ys k = true ∧ (lastY ys).getD k 0 = d := by
 have hm : lastY ys ∈ ys := by
  unfold lastY
  rw [List.getLastD_eq_getLast?, List.getLast?_eq_some_getLast hne]
  exact List.getLast_mem hne
 unfold cntD sureB
 rw [List.countP_eq_length, List.all_eq_true]
 constructor
 ·intro h
  have hl := h _ hm
  rw [beq_iff_eq] at hl
  refine ⟨fun g hg => ?_, hl⟩
  have := h g hg
  rw [beq_iff_eq] at this ⊢
  rw [this, hl]
 ·rintro ⟨h1, h2⟩ g hg
  have := h1 g hg
  rw [beq_iff_eq] at this ⊢
  rw [this, h2]
theorem set_fix (S : Dg) (p : Pg) (a : Pl) (v : Int) : setP (fixP S p) a v = fixP (updD S a v) p := by
 refine page_ext ((set_shp _ _ _).trans ((fix_shp _ _).trans (fix_shp _ _).symm)) fun b hb => ?_
 rw [shp_in (set_shp _ _ _)] at hb
 have hb2 := (shp_in (fix_shp _ _) b).1 hb
 rw [set_by _ _ _ hb, fix_by _ _ hb2, fix_by _ _ hb2]
 unfold fixB updD
 by_cases e : b = a
 ·rw [if_pos e, if_pos e]
 ·rw [if_neg e, if_neg e]
theorem mostTo_pos {ys : List (List Int)} {k : Nat} {n : Nat} (hne : ys ≠ []) (hd : ∀ y ∈ ys, digOk n y) : 1 ≤ mostTo ys k 10 := by
 obtain ⟨g, hg⟩ := List.exists_mem_of_ne_nil ys hne
 have hk := (hd g hg).2 k
 obtain ⟨e, he⟩ : ∃ e : Nat, g.getD k 0 = (e : Int) := ⟨(g.getD k 0).toNat, by omega⟩
 have h1 : 1 ≤ cntD ys k (e : Int) := by
  unfold cntD
  rw [Nat.one_le_iff_ne_zero, ← Nat.pos_iff_ne_zero, List.countP_pos_iff]
  exact ⟨g, hg, by rw [he]; simp⟩
 have h2 : ∀ m, e < m → cntD ys k (e : Int) ≤ mostTo ys k m := by
  intro m
  induction m with
  | zero => omega
  | succ m ih =>
   intro hm
   unfold mostTo
   by_cases e1 : e = m
   ·subst e1; omega
   ·have := ih (by omega); omega
 have := h2 10 (by omega)
 omega
theorem askTo_pos {ys : List (List Int)} {L : List Pl} {n : Nat} (hne : ys ≠ []) (hd : ∀ y ∈ ys, digOk n y) : ∀ j, 0 < j → (askTo ys L j).2 ≠ 0
 | j + 1, _ => by
  have h1 := mostTo_pos (k := j) hne hd
  unfold askTo
  split
  ·simp only; omega
  ·rename_i h
   exact fun e => h (.inl e)
theorem read_nil {p : Pg} (h : placesP p = []) : (readG p).length ≤ 1 := by
 rw [readG_eq, h]
 exact Nat.le_trans (List.length_filter_le _ _) (by unfold cands; simp)
end Go.Ow
namespace Go.Proofs.YtdkboibnokipaaaDoor
open Go.RowKit Go.Pm Go.Ow
def wInP (x : TV × TV × Int) (y : Pg × Pl) : Prop := pgR x.1 y.1 ∧ shpOk y.1 ∧ x.2.1 = plT y.2 ∧ inP y.1 y.2 ∧ 48 ≤ x.2.2
open Classical in
noncomputable def rWithT : List TV → Option TV
 | [t, pl, .int .u8 v] => if h : ∃ y, wInP (t, pl, v) y then some (pgF (setP (Classical.choose h).1 (Classical.choose h).2 (v - 48))) else none
 | _ => none
open Classical in
theorem rWithT_of {t : TV} {q : Pg} {a : Pl} {d : Int} (h1 : pgR t q) (h2 : shpOk q) (h3 : inP q a) (h4 : 0 ≤ d) : rWithT [t, .agg [.int .i64 a.1, .int .i64 a.2.1, .int .i64 a.2.2], .int .u8 (48 + d)] = some (pgF (setP q a d)) := by
 have h : ∃ y, wInP (t, plT a, 48 + d) y := ⟨(q, a), h1, h2, rfl, h3, by show 48 ≤ 48 + d; omega⟩
 show (if h : ∃ y, wInP (t, plT a, 48 + d) y then some (pgF (setP (Classical.choose h).1 (Classical.choose h).2 (48 + d - 48))) else none) = _
 rw [dif_pos h]
 have hs := Classical.choose_spec h
 have e1 : (Classical.choose h).1 = q := pgR_inj hs.1 h1
 have e2 : (Classical.choose h).2 = a := (plT_inj hs.2.2.1).symm
 rw [e1, e2, show 48 + d - 48 = d by omega]
open Classical in
theorem rWithT_ok : ∀ xs r, rWithT xs = some r → PCalls Tryd.prog 37 xs r := by
 intro xs r h
 unfold rWithT at h
 split at h
 ·rename_i t pl v
  split at h
  ·rename_i hx
   cases h
   have hs := Classical.choose_spec hx
   obtain ⟨h1, h2, h3, h4, h5⟩ := hs
   have h5 : 48 ≤ v := h5
   have := rWith_c h1 h2 h4 (d := v - 48) (by omega)
   rw [show 48 + (v - 48) = v by omega] at this
   have h3' : pl = plT (Classical.choose hx).2 := h3
   rw [← h3'] at this
   exact this
  ·cases h
 ·cases h
theorem rRestoreN_c {s : TV} {p : Pg} (hs : pgR s p) (hb : p.length ≤ 140737488355328) (hb2 : ∀ r ∈ p, r.length ≤ 140737488355328) (hv : validB p = false) : PCalls Tryd.prog 15 [s] (.tup [.nilSl, .int .i64 0, .int .i64 90]) := by
 have hC := rCheckPage_c hs hb hb2
 rw [hv] at hC
 refine pcalls_by Tryd.mixes (Spec.gdt_ok (Spec.one_ok (oneP_ok hC) noSpec_ok)) (fn := Tryd.f15) Tryd.func15 rfl (by kernel_rfl) (by show 1 ≤ _; decide) ?_
 simp +decide -implicitDefEqProofs (maxSteps := 4000000) only [go_sem, Tryd.f15]
theorem rAskN_c {s : TV} {p : Pg} (hs : pgR s p) (hb : p.length ≤ 140737488355328) (hb2 : ∀ r ∈ p, r.length ≤ 140737488355328) (hv : validB p = false) : PCalls Tryd.prog 20 [s] (.tup [.agg [.int .i64 0, .int .i64 0, .int .i64 0], .int .i64 0, .int .i64 90]) := by
 have hC := rCheckPage_c hs hb hb2
 rw [hv] at hC
 refine pcalls_by Tryd.mixes (Spec.gdt_ok (Spec.one_ok (oneP_ok hC) noSpec_ok)) (fn := Tryd.f20) Tryd.func20 rfl (by kernel_rfl) (by show 1 ≤ _; decide) ?_
 simp +decide -implicitDefEqProofs (maxSteps := 4000000) only [go_sem, Tryd.f20]
theorem or_ok2 {P : Program} {f : FuncId} {g h : List TV → Option TV} (hg : ∀ a r, g a = some r → PCalls P f a r) (hh : ∀ a r, h a = some r → PCalls P f a r) : ∀ a r, firstO (g a) (h a) = some r → PCalls P f a r := by
 intro a r e
 unfold firstO at e
 split at e
 ·cases e
  exact hg _ _ (by assumption)
 ·exact hh _ _ e
def restF (p : Pg) : TV := if readG p = [] then .tup [.nilSl, .int .i64 0, .int .i64 91] else .tup [pgF (restP p), .int .i64 (readG p).length, .int .i64 0]
noncomputable def spRs (s : TV) (T C L W0 : TV) : Pm.Spec := (((noSpec.one 18 (oneP [s] T)).one 54 (oneP [s] C)).one 55 (oneP [s] L)).one 37 (fun a => firstO (oneP [s, .agg [.int .i64 (-1), .int .i64 0, .int .i64 0], .int .u8 48] W0 a) (rWithT a))
theorem rRestore_c {s : TV} {p : Pg} (hs : pgR s p) (hv : validB p = true) : PCalls Tryd.prog 15 [s] (restF p) := by
 have hv' := valid_iff.1 hv
 have hok := hv'.1
 have hsm : p.length ≤ 140737488355328 ∧ ∀ l ∈ p, l.length ≤ 140737488355328 := ⟨by have := (valid_len hv).1; omega, fun l hl => by have := (valid_mem hv hl).1; omega⟩
 have hC := rCheckPage_c hs hsm.1 hsm.2
 rw [hv, if_pos rfl] at hC
 have hCt := rCount_c hs hv
 have hLs := rLost_c hs hok
 have hW0 := rWith0_c hs hok
 have h5 := hv'.2.2
 have hsz := readG_size h5
 have hdg := fun y (hy : y ∈ readG p) => readG_dig hy
 obtain ⟨R, hR⟩ : ∃ R, restF p = R := ⟨_, rfl⟩
 rw [hR]
 unfold restF restP at hR
 obtain ⟨L, hL⟩ : ∃ L, placesP p = L := ⟨_, rfl⟩
 have hinL : ∀ a ∈ L, inP p a := fun a ha => (mem_places_iff.1 (hL ▸ ha)).1
 obtain ⟨ys, hys⟩ : ∃ ys, readG p = ys := ⟨_, rfl⟩
 rw [hL] at hR hCt hLs h5 hdg
 rw [hys] at hR hCt hsz hdg
 have hCt2 := hCt
 obtain ⟨cs, hcs⟩ : ∃ cs, cntA L.length ys = cs := ⟨_, rfl⟩
 have hcl : cs.length = 51 := by rw [← hcs]; exact cellF_len _ _
 have hall := get_ts (cs := cs) (i := 50) (v := .int .i64 (ys.length : Int)) (by rw [← hcs]; exact cellF_all _ _)
 have hat : ∀ k e, k < 5 → e < 10 → (cs.map PV.t)[k * 10 + e]? = some (.t (.int .i64 ((cntN L.length ys k (e : Int) : Nat) : Int))) := fun k e hk he => get_ts (by rw [← hcs]; exact cellF_at _ _ hk he)
 rw [hcs] at hCt
 have hcm : (cs.map PV.t).length = 51 := by rw [List.length_map, hcl]
 have t1 : (cs.map PV.t).take 51 = cs.map PV.t := List.take_of_length_le (by omega)
 have t2 : (cs.map PV.t).drop 51 = [] := List.drop_eq_nil_of_le (by omega)
 have hsp : SpecOk Tryd.prog (spRs s (.int .i64 0) (.agg cs) (lostT L) (pgF p)).gdt := Spec.gdt_ok (Spec.one_ok (or_ok2 (oneP_ok hW0) rWithT_ok) (Spec.one_ok (oneP_ok hLs) (Spec.one_ok (oneP_ok hCt) (Spec.one_ok (oneP_ok hC) noSpec_ok))))
 have hfl := plC_len L
 have hcw := fun l => cellsW_ts l cs
 have hau := fun e => all_ts e cs
 have hLl : ∀ k : Nat, k < L.length → ((k : Int) < L.length) := fun k h => by omega
 refine pcalls_by Tryd.mixes hsp (fn := Tryd.f15) Tryd.func15 rfl (by kernel_rfl) (by show 1 ≤ _; decide) ?_
 by_cases hne : ys = []
 ·rw [if_pos hne] at hR
  have hz : ys.length = 0 := by rw [hne]; rfl
  simp +decide -implicitDefEqProofs (maxSteps := 4000000) only [go_sem, Tryd.f15, spRs, hcl, hcm, t1, t2, hall, hz, ← hR]
 ·rw [if_neg hne] at hR
  have hpos : 0 < ys.length := List.length_pos_iff.2 hne
  have hz : ((ys.length : Int) == 0) = false := by rw [beq_eq_false_iff_ne]; omega
  have hfix0 : fixP (sureD ys L 0) p = p := page_ext (fix_shp _ _) fun a ha => by
   rw [shp_in (fix_shp _ _)] at ha
   rw [fix_by _ _ ha]; rfl
  have hlm : (L.length = 0 ∧ lostT L = .nilSl) ∨ (L.length ≠ 0 ∧ lostT L = .sl (L.flatMap plC) L.length false) := lostT_len L
  rcases hlm with ⟨h0, hlT⟩ | ⟨h0, hlT⟩
  ·have hR2 : R = .tup [pgF p, .int .i64 ys.length, .int .i64 0] := by rw [← hR, h0, hfix0]
   simp +decide -implicitDefEqProofs (maxSteps := 4000000) only [go_sem, Tryd.f15, spRs, hcl, hcm, t1, t2, hall, hz, hlT]
   refine pwpC_loopU (A := Unit) [0, 6, 7, 8] (fun _ => [(9, .t (.int .i64 0))]) (fun _ => []) (fun _ => 0) () (by decide) (fun _ => by rfl) ?_ fun Q1 hQ1 ⟨⟩ I1 hI1 => ?_
   ·simp +decide -implicitDefEqProofs (maxSteps := 4000000) only [go_sem, spRs, hcw, hau]
   ·simp +decide -implicitDefEqProofs (maxSteps := 4000000) only [go_sem, spRs, hcw, hau]
    refine hQ1 _ _ ?_
    simp +decide -implicitDefEqProofs (maxSteps := 4000000) only [go_sem, spRs, hcl, hcm, hall, hR2]
  ·obtain ⟨P0, hP0⟩ : ∃ P : Nat → Pg, P = fun i => fixP (sureD ys L i) p := ⟨_, rfl⟩
   have hPs : ∀ i, shp (P0 i) = shp p := fun i => by rw [hP0]; exact fix_shp _ _
   have hP00 : P0 0 = p := by rw [hP0]; exact hfix0
   have hR2 : R = .tup [pgF (P0 L.length), .int .i64 ys.length, .int .i64 0] := by rw [← hR, hP0]
   obtain ⟨PI, hPI⟩ : ∃ P : Nat → Nat → Pg, P = fun i (d : Nat) => if sureB ys i = true ∧ (lastY ys).getD i 0 < (d : Int) then P0 (i + 1) else P0 i := ⟨_, rfl⟩
   have hlast : ∀ k, 0 ≤ (lastY ys).getD k 0 ∧ (lastY ys).getD k 0 ≤ 9 := fun k => by
    have hm : lastY ys ∈ ys := by
     unfold lastY
     rw [List.getLastD_eq_getLast?, List.getLast?_eq_some_getLast hne]
     exact List.getLast_mem hne
    exact (hdg _ hm).2 k
   have hPI0 : ∀ i, PI i 0 = P0 i := fun i => by
    rw [hPI]
    have := (hlast i).1
    simp only
    rw [if_neg fun h => by have := h.2; omega]
   have hPsame : ∀ i, sureB ys i = false → P0 (i + 1) = P0 i := fun i h => by
    rw [hP0]
    show fixP (sureD ys L (i + 1)) p = _
    rw [sureD, h]; rfl
   have hPI10 : ∀ i, PI i 10 = P0 (i + 1) := fun i => by
    rw [hPI]
    have := (hlast i).2
    simp only
    by_cases h : sureB ys i = true
    ·rw [if_pos ⟨h, by omega⟩]
    ·rw [if_neg fun x => h x.1, hPsame i (by simpa using h)]
   have hPIstep : ∀ (i d : Nat) (a : Pl), L[i]? = some a → (cntD ys i (d : Int) = ys.length → setP (PI i d) a (d : Int) = PI i (d + 1)) ∧ (cntD ys i (d : Int) ≠ ys.length → PI i (d + 1) = PI i d) := fun i d a ha => by
    have hga : L.getD i (0, 0, 0) = a := by rw [List.getD_eq_getElem?_getD, ha]; rfl
    refine ⟨fun h => ?_, fun h => ?_⟩
    ·obtain ⟨h1, h2⟩ := (cnt_sure hne).1 h
     rw [hPI]
     simp only
     rw [if_neg fun x => by have := x.2; omega, if_pos ⟨h1, by omega⟩, hP0]
     simp only
     rw [set_fix]
     have : sureD ys L (i + 1) = updD (sureD ys L i) (L.getD i (0, 0, 0)) ((lastY ys).getD i 0) := by rw [sureD, if_pos h1]
     rw [this, hga, h2]
    ·rw [hPI]
     simp only
     by_cases h1 : sureB ys i = true
     ·have hne2 : ¬ (lastY ys).getD i 0 = (d : Int) := fun e => h ((cnt_sure hne).2 ⟨h1, e⟩)
      by_cases h2 : (lastY ys).getD i 0 < (d : Int)
      ·rw [if_pos ⟨h1, by omega⟩, if_pos ⟨h1, h2⟩]
      ·rw [if_neg fun x => by have := x.2; omega, if_neg fun x => h2 x.2]
     ·rw [if_neg fun x => h1 x.1, if_neg fun x => h1 x.1]
   have hPIs : ∀ i d, shp (PI i d) = shp p := fun i d => by
    rw [hPI]
    simp only
    split
    ·exact hPs _
    ·exact hPs _
   simp +decide -implicitDefEqProofs (maxSteps := 4000000) only [go_sem, Tryd.f15, spRs, hcl, hcm, t1, t2, hall, hz, hlT]
   refine pwpC_loopU (A := { i : Nat // i ≤ L.length }) [0, 6, 7] (fun i => [(9, .t (.int .i64 i.1)), (8, .t (pgF (P0 i.1)))]) (fun _ => []) (fun i => L.length - i.1) ⟨0, by omega⟩ (by decide) (fun _ => by rfl) ?_ fun Q1 hQ1 ⟨i, hi⟩ I1 hI1 => ?_
   ·simp +decide -implicitDefEqProofs (maxSteps := 4000000) only [go_sem, spRs, hP00, hcw, hau]
   ·by_cases hlt : (i : Int) < L.length
    ·obtain ⟨a, ha⟩ : ∃ a, L[i]? = some a := ⟨_, List.getElem?_eq_getElem (by omega)⟩
     have hain := hinL a (List.mem_of_getElem? ha)
     have hk1 := Go.Pm.wS (k := i) (by omega)
     have hpa := plC_at ha
     rw [show plC a = [.int .i64 a.1, .int .i64 a.2.1, .int .i64 a.2.2] from rfl] at hpa
     have b1 : (i : Int) < 5 := by omega
     simp +decide -implicitDefEqProofs (maxSteps := 4000000) only [go_sem, spRs, hlt]
     refine pwpC_loopU (A := { d : Nat // d ≤ 10 }) [0, 6, 7, 9] (fun d => [(10, .t (.int .i64 d.1)), (8, .t (pgF (PI i d.1)))]) (fun _ => []) (fun d => 10 - d.1) ⟨0, by omega⟩ (by decide) (fun _ => by rfl) ?_ fun Q2 hQ2 ⟨d, hd⟩ I2 hI2 => ?_
     ·simp +decide -implicitDefEqProofs (maxSteps := 4000000) only [go_sem, spRs, hPI0, hcw, hau]
     ·by_cases hlt2 : (d : Int) < 10
      ·have hk2 := Go.Pm.wS (k := d) (by omega)
       have hw1 : IntKind.i64.wrap (48 + (d : Int)) = 48 + d := wrap_in (by omega) (by omega)
       have hw2 : IntKind.u8.wrap (48 + (d : Int)) = 48 + d := by rw [IntKind.wrap_u8]; omega
       have hge := hat i d (by omega) (by omega)
       rw [show cntN L.length ys i (d : Int) = cntD ys i (d : Int) from if_pos (by omega)] at hge
       have b3 : i * 10 + d < 51 := by omega
       have b4 : i * 10 + d + 1 ≤ 51 := by omega
       obtain ⟨hst1, hst2⟩ := hPIstep i d a ha
       by_cases hc : cntD ys i (d : Int) = ys.length
       ·have c1 : ((cntD ys i (d : Int) : Int) == (ys.length : Int)) = true := by rw [hc]; simp
        have kw := rWithT_of (t := pgF (PI i d)) (a := a) (d := (d : Int)) (pgF_R (PI i d)) ((shpOk_iff (hPIs i d)).2 hok) ((shp_in (hPIs i d) a).2 hain) (by omega)
        rw [hst1 hc] at kw
        have hno : ∀ (W : TV), oneP [s, .agg [.int .i64 (-1), .int .i64 0, .int .i64 0], .int .u8 48] W [pgF (PI i d), .agg [.int .i64 a.1, .int .i64 a.2.1, .int .i64 a.2.2], .int .u8 (48 + d)] = none := fun W => by
         unfold oneP
         rw [if_neg]
         intro e
         simp only [List.cons.injEq, TV.agg.injEq, TV.int.injEq, true_and, and_true] at e
         omega
        simp +decide -implicitDefEqProofs (maxSteps := 4000000) only [go_sem, spRs, hlt2, b1, b3, b4, hge, hall, hcm, c1, hpa, hfl, hlt, hw1, hw2, hno, kw, Nat.mul_one]
        refine hI2 _ ⟨d + 1, by omega⟩ (by simp only; omega) ?_
        simp +decide -implicitDefEqProofs (maxSteps := 4000000) only [go_sem, spRs, hcw, hau, hk2]
       ·have c1 : ((cntD ys i (d : Int) : Int) == (ys.length : Int)) = false := by rw [beq_eq_false_iff_ne]; omega
        have hse := hst2 hc
        simp +decide -implicitDefEqProofs (maxSteps := 4000000) only [go_sem, spRs, hlt2, b1, b3, b4, hge, hall, hcm, c1, Nat.mul_one]
        refine hI2 _ ⟨d + 1, by omega⟩ (by simp only; omega) ?_
        simp +decide -implicitDefEqProofs (maxSteps := 4000000) only [go_sem, spRs, hcw, hau, hk2, hse]
      ·have hde : d = 10 := by omega
       subst hde
       simp +decide -implicitDefEqProofs (maxSteps := 4000000) only [go_sem, spRs, hPI10]
       refine hQ2 _ _ ?_
       simp +decide -implicitDefEqProofs (maxSteps := 4000000) only [go_sem, spRs, hcw, hau]
       refine hI1 _ ⟨i + 1, by omega⟩ (by simp only; omega) ?_
       simp +decide -implicitDefEqProofs (maxSteps := 4000000) only [go_sem, spRs, hcw, hau, hk1, hPI10]
    ·have hie : i = L.length := by omega
     subst hie
     simp +decide -implicitDefEqProofs (maxSteps := 4000000) only [go_sem, spRs, hlt]
     refine hQ1 _ _ ?_
     simp +decide -implicitDefEqProofs (maxSteps := 4000000) only [go_sem, spRs, hcl, hcm, hall, hR2]
noncomputable def spAs (s : TV) (T C L : TV) : Pm.Spec := ((noSpec.one 18 (oneP [s] T)).one 54 (oneP [s] C)).one 55 (oneP [s] L)
theorem rAsk_c {s : TV} {p : Pg} (hs : pgR s p) (hv : validB p = true) : PCalls Tryd.prog 20 [s] (askT p) := by
 have hv' := valid_iff.1 hv
 have hok := hv'.1
 have hsm : p.length ≤ 140737488355328 ∧ ∀ l ∈ p, l.length ≤ 140737488355328 := ⟨by have := (valid_len hv).1; omega, fun l hl => by have := (valid_mem hv hl).1; omega⟩
 have hC := rCheckPage_c hs hsm.1 hsm.2
 rw [hv, if_pos rfl] at hC
 have hCt := rCount_c hs hv
 have hLs := rLost_c hs hok
 have h5 := hv'.2.2
 have hsz := readG_size h5
 have hdg := fun y (hy : y ∈ readG p) => readG_dig hy
 have hn1 : placesP p = [] → (readG p).length ≤ 1 := read_nil
 obtain ⟨R, hR⟩ : ∃ R, askT p = R := ⟨_, rfl⟩
 rw [hR]
 unfold askT at hR
 obtain ⟨L, hL⟩ : ∃ L, placesP p = L := ⟨_, rfl⟩
 obtain ⟨ys, hys⟩ : ∃ ys, readG p = ys := ⟨_, rfl⟩
 rw [hL] at hR hCt hLs h5 hdg hn1
 rw [hys] at hR hCt hsz hdg hn1
 obtain ⟨cs, hcs⟩ : ∃ cs, cntA L.length ys = cs := ⟨_, rfl⟩
 have hcl : cs.length = 51 := by rw [← hcs]; exact cellF_len _ _
 have hall := get_ts (cs := cs) (i := 50) (v := .int .i64 (ys.length : Int)) (by rw [← hcs]; exact cellF_all _ _)
 have hat : ∀ k e, k < 5 → e < 10 → (cs.map PV.t)[k * 10 + e]? = some (.t (.int .i64 ((cntN L.length ys k (e : Int) : Nat) : Int))) := fun k e hk he => get_ts (by rw [← hcs]; exact cellF_at _ _ hk he)
 rw [hcs] at hCt
 have hcm : (cs.map PV.t).length = 51 := by rw [List.length_map, hcl]
 have t1 : (cs.map PV.t).take 51 = cs.map PV.t := List.take_of_length_le (by omega)
 have t2 : (cs.map PV.t).drop 51 = [] := List.drop_eq_nil_of_le (by omega)
 have hsp : SpecOk Tryd.prog (spAs s (.int .i64 0) (.agg cs) (lostT L)).gdt := Spec.gdt_ok (Spec.one_ok (oneP_ok hLs) (Spec.one_ok (oneP_ok hCt) (Spec.one_ok (oneP_ok hC) noSpec_ok)))
 have hfl := plC_len L
 have hcw := fun l => cellsW_ts l cs
 have hau := fun e => all_ts e cs
 refine pcalls_by Tryd.mixes hsp (fn := Tryd.f20) Tryd.func20 rfl (by kernel_rfl) (by show 1 ≤ _; decide) ?_
 by_cases hne : ys.length = 0
 ·rw [if_pos hne] at hR
  simp +decide -implicitDefEqProofs (maxSteps := 4000000) only [go_sem, Tryd.f20, spAs, hcl, hcm, t1, t2, hall, hne, ← hR]
 ·rw [if_neg hne] at hR
  have hz : ((ys.length : Int) == 0) = false := by rw [beq_eq_false_iff_ne]; omega
  by_cases h1 : ys.length = 1
  ·rw [if_pos h1] at hR
   simp +decide -implicitDefEqProofs (maxSteps := 4000000) only [go_sem, Tryd.f20, spAs, hcl, hcm, t1, t2, hall, h1, ← hR]
  ·rw [if_neg h1] at hR
   have hz1 : ((ys.length : Int) == 1) = false := by rw [beq_eq_false_iff_ne]; omega
   have hys0 : ys ≠ [] := fun e => hne (by rw [e]; rfl)
   have hL0 : L.length ≠ 0 := fun e => by have := hn1 (List.length_eq_zero_iff.1 e); omega
   have hlT : lostT L = .sl (L.flatMap plC) L.length false := by unfold lostT; rw [if_neg hL0]
   have hw0 : IntKind.i64.wrap ((ys.length : Int) + 1) = ((ys.length + 1 : Nat) : Int) := by rw [wrap_in (by omega) (by omega)]; omega
   obtain ⟨lf, hlf⟩ : ∃ lf : Nat → Nat, lf = fun i => if i = 0 then ys.length + 1 else (askTo ys L i).2 := ⟨_, rfl⟩
   have hlf0 : lf 0 = ys.length + 1 := by rw [hlf]; rfl
   have hmle := fun k => mostTo_le ys k 10
   have hstep : ∀ i, i < L.length → (mostTo ys i 10 < lf i → lf (i + 1) = mostTo ys i 10 ∧ (askTo ys L (i + 1)).1 = L.getD i (0, 0, 0)) ∧ (¬ mostTo ys i 10 < lf i → lf (i + 1) = lf i ∧ (askTo ys L (i + 1)).1 = (askTo ys L i).1 ∧ 0 < i) := fun i hi => by
    rw [hlf]
    simp only
    rw [if_neg (show ¬ i + 1 = 0 by omega)]
    by_cases h0 : i = 0
    ·subst h0
     have e1 : askTo ys L (0 + 1) = (L.getD 0 (0, 0, 0), mostTo ys 0 10) := by rw [askTo, if_pos (.inl rfl)]
     refine ⟨fun _ => by rw [e1]; exact ⟨rfl, rfl⟩, fun h => absurd ?_ h⟩
     have := hmle 0
     rw [if_pos rfl]; omega
    ·rw [if_neg h0]
     have hp := askTo_pos (L := L) hys0 hdg i (by omega)
     refine ⟨fun h => ?_, fun h => ?_⟩
     ·have e1 : askTo ys L (i + 1) = (L.getD i (0, 0, 0), mostTo ys i 10) := by rw [askTo, if_pos (.inr h)]
      rw [e1]; exact ⟨rfl, rfl⟩
     ·have e1 : askTo ys L (i + 1) = askTo ys L i := by
       rw [askTo, if_neg]
       rintro (h2 | h2)
       ·exact hp h2
       ·exact h h2
      rw [e1]; exact ⟨rfl, rfl, by omega⟩
   simp +decide -implicitDefEqProofs (maxSteps := 4000000) only [go_sem, Tryd.f20, spAs, hcl, hcm, t1, t2, hall, hz, hz1, hw0, hlT]
   refine pwpC_loopU (A := { x : Nat × Nat // x.1 ≤ L.length ∧ (x.1 = 0 ∨ x.2 < L.length ∧ L.getD x.2 (0, 0, 0) = (askTo ys L x.1).1) }) [0, 2, 6, 7] (fun x => [(10, .t (.int .i64 x.1.1)), (8, .t (.int .i64 x.1.2)), (9, .t (.int .i64 (lf x.1.1)))]) (fun _ => []) (fun x => L.length - x.1.1) ⟨(0, 0), by simp⟩ (by decide) (fun _ => by rfl) ?_ fun Q1 hQ1 ⟨⟨i, b⟩, hi, hb⟩ I1 hI1 => ?_
   ·simp +decide -implicitDefEqProofs (maxSteps := 4000000) only [go_sem, spAs, hlf0, hcw, hau]
   ·simp only at hi hb
    by_cases hlt : (i : Int) < L.length
    ·have hk1 := Go.Pm.wS (k := i) (by omega)
     have b1 : (i : Int) < 5 := by omega
     simp +decide -implicitDefEqProofs (maxSteps := 4000000) only [go_sem, spAs, hlt]
     refine pwpC_loopU (A := { d : Nat // d ≤ 10 }) [0, 2, 6, 7, 8, 9, 10] (fun d => [(12, .t (.int .i64 d.1)), (11, .t (.int .i64 (mostTo ys i d.1)))]) (fun _ => []) (fun d => 10 - d.1) ⟨0, by omega⟩ (by decide) (fun _ => by rfl) ?_ fun Q2 hQ2 ⟨d, hd⟩ I2 hI2 => ?_
     ·simp +decide -implicitDefEqProofs (maxSteps := 4000000) only [go_sem, spAs, hcw, hau, show mostTo ys i 0 = 0 from rfl]
     ·by_cases hlt2 : (d : Int) < 10
      ·have hk2 := Go.Pm.wS (k := d) (by omega)
       have hge := hat i d (by omega) (by omega)
       rw [show cntN L.length ys i (d : Int) = cntD ys i (d : Int) from if_pos (by omega)] at hge
       have b3 : i * 10 + d < 51 := by omega
       have b4 : i * 10 + d + 1 ≤ 51 := by omega
       have hmx : max (mostTo ys i d : Int) (cntD ys i (d : Int) : Int) = (mostTo ys i (d + 1) : Int) := by rw [mostTo]; omega
       have hmx2 : max (mostTo ys i d) (cntD ys i (d : Int)) = mostTo ys i (d + 1) := rfl
       simp +decide -implicitDefEqProofs (maxSteps := 4000000) only [go_sem, spAs, hlt2, b1, b3, b4, hge, hcm, hmx, hmx2, Nat.mul_one]
       refine hI2 _ ⟨d + 1, by omega⟩ (by simp only; omega) ?_
       simp +decide -implicitDefEqProofs (maxSteps := 4000000) only [go_sem, spAs, hcw, hau, hk2]
      ·have hde : d = 10 := by omega
       subst hde
       simp +decide -implicitDefEqProofs (maxSteps := 4000000) only [go_sem, spAs, hcw, hau]
       refine hQ2 _ _ ?_
       obtain ⟨hs1, hs2⟩ := hstep i (by omega)
       by_cases hc : mostTo ys i 10 < lf i
       ·have c1 : (mostTo ys i 10 : Int) < (lf i : Int) := by omega
        obtain ⟨q1, q2⟩ := hs1 hc
        simp +decide -implicitDefEqProofs (maxSteps := 4000000) only [go_sem, spAs, c1]
        refine hI1 _ ⟨(i + 1, i), by simp only; omega, .inr ⟨by simp only; omega, q2.symm⟩⟩ (by simp only; omega) ?_
        simp +decide -implicitDefEqProofs (maxSteps := 4000000) only [go_sem, spAs, hcw, hau, hk1, q1]
       ·have c1 : ¬ (mostTo ys i 10 : Int) < (lf i : Int) := by omega
        obtain ⟨q1, q2, q3⟩ := hs2 hc
        simp +decide -implicitDefEqProofs (maxSteps := 4000000) only [go_sem, spAs, c1]
        refine hI1 _ ⟨(i + 1, b), by simp only; omega, .inr ?_⟩ (by simp only; omega) ?_
        ·rcases hb with h | h
         ·omega
         ·exact ⟨h.1, h.2.trans q2.symm⟩
        ·simp +decide -implicitDefEqProofs (maxSteps := 4000000) only [go_sem, spAs, hcw, hau, hk1, q1]
    ·have hie : i = L.length := by omega
     subst hie
     obtain ⟨hb1, hb2⟩ : b < L.length ∧ L.getD b (0, 0, 0) = (askTo ys L L.length).1 := by
      rcases hb with h | h
      ·exact absurd h hL0
      ·exact h
     obtain ⟨a, ha⟩ : ∃ a, L[b]? = some a := ⟨_, List.getElem?_eq_getElem hb1⟩
     have hga : L.getD b (0, 0, 0) = a := by rw [List.getD_eq_getElem?_getD, ha]; rfl
     rw [hga] at hb2
     have hpa := plC_at ha
     rw [show plC a = [.int .i64 a.1, .int .i64 a.2.1, .int .i64 a.2.2] from rfl] at hpa
     have hb3 : (b : Int) < L.length := by omega
     have hlfe : lf L.length = (askTo ys L L.length).2 := by rw [hlf]; simp only; rw [if_neg hL0]
     have hR2 : R = .tup [.agg [.int .i64 a.1, .int .i64 a.2.1, .int .i64 a.2.2], .int .i64 (askTo ys L L.length).2, .int .i64 0] := by rw [← hR, ← hb2]; rfl
     simp +decide -implicitDefEqProofs (maxSteps := 4000000) only [go_sem, spAs, hlt]
     refine hQ1 _ _ ?_
     simp +decide -implicitDefEqProofs (maxSteps := 4000000) only [go_sem, spAs, hb3, hpa, hfl, hlfe, hR2]
end Go.Proofs.YtdkboibnokipaaaDoor

namespace Go.Proofs.YtdkboibnokipaaaDoor
open Go.RowKit Go.Pm Go.Ow
theorem wStr {k : Nat} {cs : List TV} (h : cellsOk Tryd.prog (k + 1) 9 cs) : ∃ s : ByteArray, cs = [.str s] := by
 unfold cellsOk at h
 rw [Tryd.underlying9] at h
 obtain ⟨s, h, _⟩ := h
 exact ⟨s, h⟩
theorem wSlice {k : Nat} {t e : TypeId} {cs : List TV} (hu : Program.underlying Tryd.prog t = some (.slice e)) (h : cellsOk Tryd.prog (k + 1) t cs) : ∃ x, cs = [x] ∧ cellsOk Tryd.prog (k + 1) t [x] := by
 have h' := h
 unfold cellsOk at h'
 rw [hu] at h'
 rcases h' with h' | ⟨rows, full, h', _⟩
 ·exact ⟨_, h', by rw [← h']; exact h⟩
 ·exact ⟨_, h', by rw [← h']; exact h⟩
theorem wTexts {x : TV} {k : Nat} (h : cellsOk Tryd.prog (k + 2) 41 [x]) : ∃ l : List ByteArray, txR x l ∧ l.length ≤ 8796093022208 := by
 obtain ⟨l, h1, h2, h3, _⟩ := cellsOk_row (e := 9) (c := fun s : ByteArray => [TV.str s]) (p := fun _ => True) (by kernel_rfl) (fun cs hc => by obtain ⟨s, rfl⟩ := wStr hc; exact ⟨s, rfl, trivial⟩) h
 rw [show Program.bytesOf Tryd.prog 9 = 16 by kernel_rfl] at h3
 unfold reachBytes at h3
 refine ⟨l, ?_, by omega⟩
 have e : ∀ m : List ByteArray, m.flatMap (fun s => [TV.str s]) = m.map .str := fun m => by induction m with
  | nil => rfl
  | cons a m ih => rw [List.flatMap_cons, ih]; rfl
 rw [e] at h1
 exact h1
end Go.Proofs.YtdkboibnokipaaaDoor

namespace Go.Proofs.YtdkboibnokipaaaDoor
open Go.RowKit Go.Pm Go.Ow
theorem pageArg {x : TV} (h : argOk Tryd.prog 22 x) : ∃ p : List (List ByteArray), pgR x p ∧ p.length ≤ 140737488355328 ∧ ∀ r ∈ p, r.length ≤ 140737488355328 := by
 obtain ⟨l, h1, h2, h3, h4⟩ := cellsOk_row (e := 41) (c := fun y : TV × List ByteArray => [y.1]) (p := fun y => txR y.1 y.2 ∧ y.2.length ≤ 8796093022208) (by kernel_rfl) (fun cs hc => by
  obtain ⟨s, rfl, h5⟩ := wSlice (e := 9) (by kernel_rfl) hc
  obtain ⟨m, hm, lm⟩ := wTexts h5
  exact ⟨(s, m), rfl, hm, lm⟩) (argOk_sl (e := 41) (by kernel_rfl) h)
 rw [show Program.bytesOf Tryd.prog 41 = 24 by kernel_rfl] at h3
 unfold reachBytes at h3
 have hf : ∀ m : List (TV × List ByteArray), m.flatMap (fun y => [y.1]) = m.map (·.1) := fun m => by induction m with
  | nil => rfl
  | cons a m ih => rw [List.flatMap_cons, ih]; rfl
 rw [hf] at h1
 refine ⟨l.map (·.2), ?_, by rw [List.length_map]; omega, fun r hr => ?_⟩
 ·rcases h1 with ⟨e, e2⟩ | ⟨f, e⟩
  ·exact .inl ⟨e, by rw [e2]; rfl⟩
  ·refine .inr ⟨l.map (·.1), f, by rw [List.length_map]; exact e, by rw [List.length_map, List.length_map], fun k r t hr ht => ?_⟩
   rw [List.getElem?_map, Option.map_eq_some_iff] at hr ht
   obtain ⟨a, ha, rfl⟩ := hr
   obtain ⟨b, hb, rfl⟩ := ht
   rw [ha] at hb
   cases hb
   exact (h2 a (List.mem_of_getElem? ha)).1
 ·obtain ⟨a, ha, rfl⟩ := List.mem_map.1 hr
  have := (h2 a ha).2
  omega
end Go.Proofs.YtdkboibnokipaaaDoor

namespace Go.Proofs.YtdkboibnokipaaaDoor
open Go.RowKit Go.Pm Go.Ow
theorem wk_glob {w : World} {l : List (String × DataW Unit)} (hm : ("octant/wreck.kinds", Rows.laid_octant_wreck_kinds) ∈ l) (h : laidMetH Tryd.prog l w) : GlobOk (allF w) := by
 have hf := h.funcs (n := "octant/wreck.kinds") (d := .agg [.iface "func" (.lit (.string [40, 111, 99, 116, 97, 110, 116, 47, 119, 114, 101, 99, 107, 46, 98, 111, 111, 107, 41, 46, 109, 97, 100, 101])), .iface "func" (.lit (.string [40, 111, 99, 116, 97, 110, 116, 47, 119, 114, 101, 99, 107, 46, 98, 111, 111, 107, 41, 46, 109, 101, 110, 100, 101, 100])), .iface "func" (.lit (.string [40, 111, 99, 116, 97, 110, 116, 47, 119, 114, 101, 99, 107, 46, 98, 111, 111, 107, 41, 46, 97, 103, 97, 105, 110])), .iface "func" (.lit (.string [40, 111, 99, 116, 97, 110, 116, 47, 119, 114, 101, 99, 107, 46, 98, 111, 111, 107, 41, 46, 108, 111, 115, 116]))]) hm
 obtain ⟨g, t, cs, fuel, p, hg, ht, hv, hd⟩ := hf
 have hg0 : Tryd.prog.globalNamed "octant/wreck.kinds" = some 0 := by kernel_rfl
 have ht0 : (Tryd.prog.globals[0]?).map (·.type) = some 129 := by kernel_rfl
 obtain rfl := Option.some.inj (hg0.symm.trans hg)
 obtain rfl := Option.some.inj (ht0.symm.trans ht)
 have hd' : DataW.trod (funcToken Tryd.prog) Tryd.prog w 0 (fun _ => true) true fuel 129 cs.toList = some (.agg [.held [40, 111, 99, 116, 97, 110, 116, 47, 119, 114, 101, 99, 107, 46, 98, 111, 111, 107, 41, 46, 109, 97, 100, 101], .held [40, 111, 99, 116, 97, 110, 116, 47, 119, 114, 101, 99, 107, 46, 98, 111, 111, 107, 41, 46, 109, 101, 110, 100, 101, 100], .held [40, 111, 99, 116, 97, 110, 116, 47, 119, 114, 101, 99, 107, 46, 98, 111, 111, 107, 41, 46, 97, 103, 97, 105, 110], .held [40, 111, 99, 116, 97, 110, 116, 47, 119, 114, 101, 99, 107, 46, 98, 111, 111, 107, 41, 46, 108, 111, 115, 116]], p) := hd
 obtain ⟨xs, m, _, ex, hcl, hl, hel⟩ := DataW.trod_array Tryd.underlying129 hd'
 have hce : Tryd.prog.cellsOf 128 = 1 := by kernel_rfl
 have hct : Tryd.prog.cellsOf 129 = 4 := by kernel_rfl
 rw [hct] at hcl
 simp only [Prod.mk.injEq, DataW.agg.injEq] at ex
 obtain ⟨ex, _⟩ := ex
 match xs, hl, ex, hel with
 | [x0, x1, x2, x3], _, ex, hel =>
  simp only [List.map_cons, List.map_nil, List.cons.injEq, and_true] at ex
  obtain ⟨y0, y1, y2, y3⟩ := ex
  obtain ⟨x0a, x0b⟩ := x0
  obtain ⟨x1a, x1b⟩ := x1
  obtain ⟨x2a, x2b⟩ := x2
  obtain ⟨x3a, x3b⟩ := x3
  simp only at y0 y1 y2 y3
  subst y0; subst y1; subst y2; subst y3
  match hcc : cs.toList, hcl with
  | [v0, v1, v2, v3], _ =>
   rw [hcc, hce] at hel
   have h0 := hel 0 (by omega)
   have h1 := hel 1 (by omega)
   have h2 := hel 2 (by omega)
   have h3 := hel 3 (by omega)
   obtain rfl := func_of_trod (f0 := 163) Tryd.underlying128 (by kernel_rfl) h0
   obtain rfl := func_of_trod (f0 := 164) Tryd.underlying128 (by kernel_rfl) h1
   obtain rfl := func_of_trod (f0 := 160) Tryd.underlying128 (by kernel_rfl) h2
   obtain rfl := func_of_trod (f0 := 165) Tryd.underlying128 (by kernel_rfl) h3
   have hcell : ∀ i, w.cell? ⟨0, i, none⟩ = [Value.func (.func 163) #[] #[], .func (.func 164) #[] #[], .func (.func 160) #[] #[], .func (.func 165) #[] #[]][i]? := fun i => by
    have := World.var?_cell hg hv i
    rw [this, ← Array.getElem?_toList, hcc]
   intro g cs hc
   have hc2 : globs.lookup g = some cs := hc
   by_cases hg1 : g = 0
   ·subst hg1
    have e : cs = [.fn 163 [] [], .fn 164 [] [], .fn 160 [] [], .fn 165 [] []] := (Option.some.inj (show some _ = some cs from hc)).symm
    rw [e]
    refine .cptr _ _ [Value.func (.func 163) #[] #[], .func (.func 164) #[] #[], .func (.func 160) #[] #[], .func (.func 165) #[] #[]] rfl (fun i u hi => ⟨?_, ?_⟩) (fun i c u hi hj => ?_)
    ·rw [add_plain, Nat.zero_add]
     show w.cell? _ = some u
     rw [hcell]; exact hi
    ·match i, hi with
     | 0, hi => cases hi; rfl
     | 1, hi => cases hi; rfl
     | 2, hi => cases hi; rfl
     | 3, hi => cases hi; rfl
    ·match i, hi, hj with
     | 0, hi, hj => cases hi; cases hj; exact .fn _ [] [] [] [] rfl (fun i c u h => by cases h) rfl (fun i c u h => by cases h)
     | 1, hi, hj => cases hi; cases hj; exact .fn _ [] [] [] [] rfl (fun i c u h => by cases h) rfl (fun i c u h => by cases h)
     | 2, hi, hj => cases hi; cases hj; exact .fn _ [] [] [] [] rfl (fun i c u h => by cases h) rfl (fun i c u h => by cases h)
     | 3, hi, hj => cases hi; cases hj; exact .fn _ [] [] [] [] rfl (fun i c u h => by cases h) rfl (fun i c u h => by cases h)
   ·exfalso
    simp [globs, List.lookup] at hc2
    split at hc2 <;> simp_all
noncomputable def wk_start (os : Os) : World := (World.doorLaid Tryd.prog 24 os).layVars Tryd.prog [("unicode/utf8.acceptRanges", Rows.laid_unicode_utf8_acceptRanges), ("unicode/utf8.first", Rows.laid_unicode_utf8_first)]
theorem wk_start_os (os : Os) : (wk_start os).os = os := World.layVars_os _ _ _
theorem wk_met (os : Os) (args : Array Value) : laidMetH Tryd.prog [("unicode/utf8.acceptRanges", Rows.laid_unicode_utf8_acceptRanges), ("octant/wreck.kinds", Rows.laid_octant_wreck_kinds), ("unicode/utf8.first", Rows.laid_unicode_utf8_first)] ((wk_start os).forCall (fun _ _ => 0) ⟨#[], args, []⟩).memory := by
 refine laidMetH_of_parts3 (fuel := 8) ?_ (by kernel_rfl) (by kernel_rfl)
 have e0 : ([("unicode/utf8.acceptRanges", Rows.laid_unicode_utf8_acceptRanges), ("octant/wreck.kinds", Rows.laid_octant_wreck_kinds), ("unicode/utf8.first", Rows.laid_unicode_utf8_first)] : List (String × DataW Unit)).filter (fun x => x.2.handleName?.isNone) = [("unicode/utf8.acceptRanges", Rows.laid_unicode_utf8_acceptRanges), ("unicode/utf8.first", Rows.laid_unicode_utf8_first)] := by kernel_rfl
 rw [e0]
 have e1 : ([("unicode/utf8.acceptRanges", Rows.laid_unicode_utf8_acceptRanges), ("unicode/utf8.first", Rows.laid_unicode_utf8_first)] : List (String × DataW Unit)).filter (fun x => ["unicode/utf8.acceptRanges", "unicode/utf8.first"].contains x.1) = [("unicode/utf8.acceptRanges", Rows.laid_unicode_utf8_acceptRanges), ("unicode/utf8.first", Rows.laid_unicode_utf8_first)] := by kernel_rfl
 have e2 : ([("unicode/utf8.acceptRanges", Rows.laid_unicode_utf8_acceptRanges), ("unicode/utf8.first", Rows.laid_unicode_utf8_first)] : List (String × DataW Unit)).filter (fun x => !["unicode/utf8.acceptRanges", "unicode/utf8.first"].contains x.1) = [] := by kernel_rfl
 have h : laidMet Tryd.prog [("unicode/utf8.acceptRanges", Rows.laid_unicode_utf8_acceptRanges), ("unicode/utf8.first", Rows.laid_unicode_utf8_first)] (wk_start os) := laidMet_layVars (w0 := World.doorLaid Tryd.prog 24 os) ["unicode/utf8.acceptRanges", "unicode/utf8.first"] [] (by rw [e1]; rfl) (by rw [e1]; kernel_rfl) (by rw [e1]; kernel_rfl) (by rw [e2]; exact LaidIn.none)
 exact h.of_heap (by simp [World.memory, World.forCall, Input.heap])
theorem wk_shaped (os : Os) (args : Array Value) : ((wk_start os).forCall (fun _ _ => 0) ⟨#[], args, []⟩).Shaped Tryd.prog := World.shaped_of_ZipB (by kernel_rfl) (by kernel_rfl)
end Go.Proofs.YtdkboibnokipaaaDoor

namespace Go.Proofs.YtdkboibnokipaaaDoor
open Go.RowKit Go.Pm Go.Ow
noncomputable def spRe (s A B C D E F : TV) : Pm.Spec := (((((((noSpec.one 14 (oneP [s] A)).one 15 (oneP [s] B)).one 17 (oneP [s] C)).one 18 (oneP [s] D)).one 19 (oneP [s] E)).one 20 (oneP [s] F)).one 16 rSmT).one 21 (oneP [] (.bool true))
theorem WreckRestores_c {s : TV} {p : Pg} (hs : pgR s p) (lp : p.length ≤ 140737488355328) (lp2 : ∀ r ∈ p, r.length ≤ 140737488355328) : PCalls Tryd.prog 3 [s] (.bool true) := by
 have hC := wCheckPage_c hs
 have hD := rCheckPage_c hs lp lp2
 have kn := rSmT_of (s := .nilSl) (t := .nilSl) (.inl ⟨rfl, rfl⟩) (.inl ⟨rfl, rfl⟩) small_nil
 rw [decide_eq_true rfl] at kn
 by_cases hv : validB p = true
 rotate_left
 ·have hvf : validB p = false := by simpa using hv
  rw [if_neg hv] at hC hD
  have hsp : SpecOk Tryd.prog (spRe s _ _ _ _ _ _).gdt := Spec.gdt_ok (Spec.one_ok (oneP_ok oWorks_c) (Spec.one_ok rSmT_ok (Spec.one_ok (oneP_ok (rAskN_c hs lp lp2 hvf)) (Spec.one_ok (oneP_ok (wAskN_c hs hvf)) (Spec.one_ok (oneP_ok hD) (Spec.one_ok (oneP_ok hC) (Spec.one_ok (oneP_ok (rRestoreN_c hs lp lp2 hvf)) (Spec.one_ok (oneP_ok (wRestoreN_c hs hvf)) noSpec_ok))))))))
  refine pcalls_by Tryd.mixes hsp (fn := Tryd.f3) Tryd.func3 rfl (by kernel_rfl) (by show 1 ≤ _; decide) ?_
  simp +decide -implicitDefEqProofs (maxSteps := 4000000) only [go_sem, Tryd.f3, spRe, kn, bne_self_eq_false]
 ·rw [if_pos hv] at hC hD
  have hA := wRestore_c hs hv
  have hB := rRestore_c hs hv
  have hE := wAsk_c hs hv
  have hF := rAsk_c hs hv
  obtain ⟨X, Y, n, e, h1, h2, hk⟩ : ∃ X Y n e, restT p = .tup [X, .int .i64 n, .int .i64 e] ∧ restF p = .tup [Y, .int .i64 n, .int .i64 e] ∧ rSmT [X, Y] = some (.bool true) := by
   unfold restT restF
   by_cases h : readG p = []
   ·rw [if_pos h, if_pos h]; exact ⟨_, _, _, _, rfl, rfl, kn⟩
   ·rw [if_neg h, if_neg h]
    refine ⟨_, _, _, _, rfl, rfl, ?_⟩
    have hsm : smallP (restP p) := by
     have hok := (valid_iff.1 hv).1
     have e := shpOk_iff (fix_shp (sureD (readG p) (placesP p) (placesP p).length) p)
     have hok2 := e.2 hok
     refine ⟨by have := hok2.1; unfold restP; omega, fun l hl => ?_⟩
     obtain ⟨i, hi, rfl⟩ := List.getElem_of_mem hl
     have := (hok2.2.1 i hi).1
     have er : rowA (fixP (sureD (readG p) (placesP p) (placesP p).length) p) i = (restP p)[i] := by
      show rowA (restP p) i = _
      unfold rowA
      rw [List.getD_eq_getElem?_getD, List.getElem?_eq_getElem hi]; rfl
     rw [er] at this
     omega
    have k := rSmT_of (pgV_R (restP p)) (pgF_R (restP p)) hsm
    rw [decide_eq_true rfl] at k
    exact k
  rw [h1] at hA
  rw [h2] at hB
  obtain ⟨a, b, c, m, f, h3⟩ : ∃ a b c m f, askT p = .tup [.agg [.int .i64 a, .int .i64 b, .int .i64 c], .int .i64 m, .int .i64 f] := by
   unfold askT
   split
   ·exact ⟨_, _, _, _, _, rfl⟩
   ·split
    ·exact ⟨_, _, _, _, _, rfl⟩
    ·exact ⟨_, _, _, _, _, rfl⟩
  rw [h3] at hE hF
  have hsp : SpecOk Tryd.prog (spRe s _ _ _ _ _ _).gdt := Spec.gdt_ok (Spec.one_ok (oneP_ok oWorks_c) (Spec.one_ok rSmT_ok (Spec.one_ok (oneP_ok hF) (Spec.one_ok (oneP_ok hE) (Spec.one_ok (oneP_ok hD) (Spec.one_ok (oneP_ok hC) (Spec.one_ok (oneP_ok hB) (Spec.one_ok (oneP_ok hA) noSpec_ok))))))))
  refine pcalls_by Tryd.mixes hsp (fn := Tryd.f3) Tryd.func3 rfl (by kernel_rfl) (by show 1 ≤ _; decide) ?_
  simp +decide -implicitDefEqProofs (maxSteps := 4000000) only [go_sem, Tryd.f3, spRe, hk, bne_self_eq_false]
end Go.Proofs.YtdkboibnokipaaaDoor
