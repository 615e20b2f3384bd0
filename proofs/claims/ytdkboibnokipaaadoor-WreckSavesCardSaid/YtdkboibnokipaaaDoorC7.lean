/- What the claim leans on, text 7. -/
import Derived.Test.YtdkboibnokipaaaDoorTie
import Derived.Test.YtdkboibnokipaaaDoorCards
import Derived.LaidMore
import Derived.SevenTiedAt
import Derived.OpenShut
import Derived.Lay
import Derived.Test.YtdkboibnokipaaaDoorC6
set_option linter.unusedSimpArgs false
set_option linter.unusedVariables false
set_option maxRecDepth 100000
set_option maxHeartbeats 16000000

namespace Go.Ow
open Go Go.RowKit Go.Pm
def sumS (v : Nat → Nat → Nat) (cols r c : Nat) : Nat → Nat := fun k => if k < cols - 1 then sumT (fun i => v i k) r + (if k < c then v r k else 0) else sumT (fun i => rowS v cols i) r
def numL (n : Nat) (S : Nat → Nat) : List TV := (List.range n).map fun k => TV.int .i64 (S k : Int)
theorem numL_len (n : Nat) (S : Nat → Nat) : (numL n S).length = n := by unfold numL; rw [List.length_map, List.length_range]
theorem numL_at {n : Nat} (S : Nat → Nat) {k : Nat} (h : k < n) : (numL n S)[k]? = some (.int .i64 (S k : Int)) := by unfold numL; rw [List.getElem?_map, List.getElem?_range h]; rfl
theorem numL_congr {n : Nat} {S T : Nat → Nat} (h : ∀ k, k < n → S k = T k) : numL n S = numL n T := by
 unfold numL
 exact List.map_congr_left fun k hk => by rw [h k (List.mem_range.1 hk)]
theorem numL_set {n : Nat} (S : Nat → Nat) {k v : Nat} (h : k < n) : (numL n S).set k (.int .i64 (v : Int)) = numL n fun j => if j = k then v else S j := by
 apply List.ext_getElem?
 intro j
 rw [List.getElem?_set, numL_len]
 by_cases hj : j < n
 ·rw [numL_at _ hj, numL_at _ hj]
  by_cases e : k = j
  ·subst e; rw [if_pos rfl, if_pos hj, if_pos rfl]
  ·rw [if_neg e, if_neg (fun h => e h.symm)]
 ·rw [if_neg (by omega), List.getElem?_eq_none (by rw [numL_len]; omega), List.getElem?_eq_none (by rw [numL_len]; omega)]
theorem numL_zero : ∀ n, (numL n fun _ => 0).map PV.t = (List.replicate n [.t (.int .i64 0)]).flatten
 | 0 => rfl
 | n + 1 => by
  unfold numL
  rw [List.range_succ, List.map_append, List.map_append, List.replicate_succ', List.flatten_append, ← numL_zero n]
  rfl
theorem sumS_0 (v : Nat → Nat → Nat) (cols : Nat) : ∀ k, sumS v cols 0 0 k = 0 := fun k => by unfold sumS; split <;> rfl
theorem sumS_c {v : Nat → Nat → Nat} {cols r c : Nat} (h : c < cols - 1) (k : Nat) : (if k = c then sumS v cols r c c + v r c else sumS v cols r c k) = sumS v cols r (c + 1) k := by
 unfold sumS
 by_cases e : k = c
 ·subst e
  rw [if_pos rfl, if_pos h, if_pos h, if_neg (by omega), if_pos (by omega)]; omega
 ·rw [if_neg e]
  by_cases h1 : k < cols - 1
  ·rw [if_pos h1, if_pos h1]
   by_cases h2 : k < c
   ·rw [if_pos h2, if_pos (by omega)]
   ·rw [if_neg h2, if_neg (by omega)]
  ·rw [if_neg h1, if_neg h1]
theorem sumS_r {v : Nat → Nat → Nat} {cols r : Nat} (hc : 2 ≤ cols) {k : Nat} (hk : k < cols) : (if k = cols - 1 then sumS v cols r (cols - 1) (cols - 1) + rowS v cols r else sumS v cols r (cols - 1) k) = sumS v cols (r + 1) 0 k := by
 unfold sumS
 by_cases e : k = cols - 1
 ·subst e
  rw [if_pos rfl, if_neg (by omega), if_neg (by omega)]
  rfl
 ·rw [if_neg e, if_pos (by omega), if_pos (by omega), if_pos (by omega), if_neg (by omega)]
  rfl
theorem sumS_W {v : Nat → Nat → Nat} {rows cols : Nat} {k : Nat} : sumS v cols (rows - 1) 0 k = wholeW v rows cols (rows - 1) k := by
 unfold sumS wholeW
 rw [if_neg (show ¬ rows - 1 < rows - 1 by omega)]
 by_cases h : k < cols - 1
 ·rw [if_pos h, if_pos h, if_neg (by omega)]; rfl
 ·rw [if_neg h, if_neg h]
theorem sumS_le {v : Nat → Nat → Nat} (hv : ∀ r c, v r c < 400) {cols r : Nat} (hc : cols ≤ 5) (hr : r ≤ 5) (c k : Nat) : sumS v cols r c k ≤ 10000 := by
 have h1 := rowS_le hv hc
 have h2 := sumT_le (f := fun i => v i k) (m := 400) r fun x _ => Nat.le_of_lt (hv x k)
 have h3 := sumT_le (f := fun i => rowS v cols i) (m := 1600) r fun x _ => h1 x
 have h4 := hv r k
 have h6 : r * 400 ≤ 5 * 400 := Nat.mul_le_mul_right _ hr
 have h7 : r * 1600 ≤ 5 * 1600 := Nat.mul_le_mul_right _ hr
 unfold sumS
 split
 ·split <;> omega
 ·omega
theorem sumT_5 {v : Nat → Nat → Nat} (hv : ∀ r c, v r c < 400) (r : Nat) {c : Nat} (hc : c ≤ 5) : sumT (fun k => v r k) c ≤ 2000 := by
 have := sumT_le (f := fun k => v r k) (m := 400) c fun x _ => Nat.le_of_lt (hv r x)
 have h6 : c * 400 ≤ 5 * 400 := Nat.mul_le_mul_right _ hc
 omega
end Go.Ow
namespace Go.Proofs.YtdkboibnokipaaaDoor
open Go.RowKit Go.Pm Go.Ow
def numV (l : List Int) (cols : Nat) : Nat → Nat → Nat := fun r c => (pkN l ((r : Int) * cols + c + 2) % 400).toNat
def numRows (l : List Int) : Nat := 2 + (pkN l 0 % 4).toNat
def numCols (l : List Int) : Nat := 2 + (pkN l 1 % 4).toNat
def chosenP (l : List Int) : Pg := wholeP (numV l (numCols l)) (numRows l) (numCols l)
theorem num_bounds (l : List Int) : (2 ≤ numRows l ∧ numRows l ≤ 5) ∧ (2 ≤ numCols l ∧ numCols l ≤ 5) ∧ ∀ cols r c, numV l cols r c < 400 := by
 unfold numRows numCols numV
 refine ⟨?_, ?_, fun cols r c => ?_⟩ <;> omega
noncomputable def spWhl (X : TV) (l : List Int) : Pm.Spec := { ((noSpec.one 33 rfMod).one 34 (rfPick X l)).one 50 rfText with mu := fun t => t == 52 }
theorem spWhl_ok {X : TV} {l : List Int} (hX : inR X l) (hl : l.length ≤ 140737488355328) : SpecOk Tryd.prog (spWhl X l) := by
 have h : SpecOk Tryd.prog (((noSpec.one 33 rfMod).one 34 (rfPick X l)).one 50 rfText) := Spec.one_ok rfText_ok (Spec.one_ok (rfPick_ok hX hl) (Spec.one_ok rfMod_ok noSpec_ok))
 exact ⟨h.1, h.2⟩
section
variable (X : TV) (l : List Int) (g : FuncId) (xs : List TV) (ps : List PV) (hl : List PO) (Y : YS) (t : TypeId)
@[go_sem] theorem spWhl_p : (spWhl X l).p g xs = if g = 50 then rfText xs else if g = 34 then rfPick X l xs else if g = 33 then rfMod xs else none := rfl
@[go_sem] theorem spWhl_h : (spWhl X l).h g ps hl = none := rfl
@[go_sem] theorem spWhl_y : (spWhl X l).y Y g ps hl = none := rfl
@[go_sem] theorem spWhl_pn : (spWhl X l).pn g ps hl = none := rfl
@[go_sem] theorem spWhl_fz : (spWhl X l).fz g = false := rfl
@[go_sem] theorem spWhl_fr : (spWhl X l).fr g = false := rfl
@[go_sem] theorem spWhl_yf : (spWhl X l).yf g = false := rfl
@[go_sem] theorem spWhl_gd : (spWhl X l).gd = false := rfl
@[go_sem] theorem spWhl_nf : (spWhl X l).nf t = false := rfl
@[go_sem] theorem spWhl_mu : (spWhl X l).mu t = (t == 52) := rfl
end
theorem rWhole_c {X : TV} {l : List Int} (hX : inR X l) (hl : l.length ≤ 140737488355328) : PCalls Tryd.prog 32 [X] (pgF (chosenP l)) := by
 obtain ⟨⟨r2, r5⟩, ⟨c2, c5⟩, hv⟩ := num_bounds l
 obtain ⟨R, hR⟩ : ∃ R, pgF (chosenP l) = R := ⟨_, rfl⟩
 rw [hR]
 have hrows : pkN l 0 % 4 = ((numRows l : Nat) : Int) - 2 := by unfold numRows; omega
 have hcols : pkN l 1 % 4 = ((numCols l : Nat) : Int) - 2 := by unfold numCols; omega
 unfold chosenP at hR
 have hvd : ∀ r c : Nat, pkN l ((r : Int) * ((numCols l : Nat) : Int) + c + 2) % 400 = ((numV l (numCols l) r c : Nat) : Int) := fun r c => by unfold numV; omega
 obtain ⟨rows, hre⟩ : ∃ n, numRows l = n := ⟨_, rfl⟩
 obtain ⟨cols, hce⟩ : ∃ n, numCols l = n := ⟨_, rfl⟩
 rw [hre] at r2 r5 hrows hR
 rw [hce] at c2 c5 hcols hvd hR
 obtain ⟨v, hve⟩ : ∃ v, numV l cols = v := ⟨_, rfl⟩
 have hv := hv cols
 rw [hve] at hvd hv hR
 have hWr : ∀ r c, wholeW v rows cols r c < 100000 := fun r c => wholeW_lt hv r5 c5 r c
 have hlen : (wholeP v rows cols).length = rows := mk_len _ _ _
 have hrow : ∀ r, r < rows - 1 → (wholeP v rows cols).take (r + 1) = (wholeP v rows cols).take r ++ [(List.range (cols - 1)).map (fun c => txtB (v r c)) ++ [txtB (rowS v cols r)]] := fun r hr => by
  rw [List.take_add_one]
  congr 1
  unfold wholeP mkPg
  rw [List.getElem?_map, List.getElem?_range (by omega)]
  have : (List.range cols).map (fun c => txtB (wholeW v rows cols r c)) = (List.range (cols - 1)).map (fun c => txtB (v r c)) ++ [txtB (rowS v cols r)] := by
   rw [show cols = cols - 1 + 1 by omega, List.range_succ, List.map_append]
   rw [show cols - 1 + 1 - 1 = cols - 1 by omega, show cols - 1 + 1 = cols by omega]
   congr 1
   ·refine List.map_congr_left fun c hc => ?_
    have := List.mem_range.1 hc
    unfold wholeW
    rw [if_pos hr, if_pos this]
   ·simp only [List.map_cons, List.map_nil]
    unfold wholeW
    rw [if_pos hr, if_neg (by omega)]
  rw [Option.map_some, this]; rfl
 have hlast : wholeP v rows cols = (wholeP v rows cols).take (rows - 1) ++ [(List.range cols).map fun c => txtB (wholeW v rows cols (rows - 1) c)] := by
  have h1 : (wholeP v rows cols).take (rows - 1 + 1) = wholeP v rows cols := List.take_of_length_le (by omega)
  refine h1.symm.trans ?_
  rw [List.take_add_one]
  congr 1
  unfold wholeP mkPg
  rw [List.getElem?_map, List.getElem?_range (by omega)]; rfl
 have w1 : IntKind.i64.wrap (2 + ((rows : Int) - 2)) = (rows : Int) := by rw [wrap_in (by omega) (by omega)]; omega
 have w2 : IntKind.i64.wrap (2 + ((cols : Int) - 2)) = (cols : Int) := by rw [wrap_in (by omega) (by omega)]; omega
 have hro : cols * 8 ≤ 140737488355328 := by omega
 have hz := numL_zero cols
 have hcz : (0 : Int) ≤ cols := by omega
 refine pcalls_by Tryd.mixes (spWhl_ok hX hl) (fn := Tryd.f32) Tryd.func32 rfl (by kernel_rfl) (by show 1 ≤ _; decide) ?_
 simp +decide -implicitDefEqProofs (maxSteps := 4000000) only [go_sem, Tryd.f32, hrows, hcols, w1, w2, hro, ← hz, hcz]
 refine pwpC_loopU (A := { r : Nat // r + 1 ≤ rows }) [0, 3, 4, 5] (fun r => [(7, .t (.int .i64 r.1)), (6, .own (((wholeP v rows cols).take r.1).map rowF) r.1 1)]) (fun r => [(0, .grow 0 ((numL cols (sumS v cols r.1 0)).map .t) 3 1), (1, .tok r.1 41)]) (fun r => rows - r.1) ⟨0, by omega⟩ (by decide) (fun _ => by rfl) ?_ fun Q1 hQ1 ⟨r, hr⟩ I1 hI1 => ?_
 ·have e0 : numL cols (sumS v cols 0 0) = numL cols fun _ => 0 := numL_congr fun k _ => sumS_0 v cols k
  have hcw := fun l => cellsW_ts l (numL cols fun _ => 0)
  have hau := fun e => all_ts e (numL cols fun _ => 0)
  simp +decide -implicitDefEqProofs (maxSteps := 4000000) only [go_sem, e0, List.take_zero, List.map_nil, hcw, hau]
 ·have hk1 := Go.Pm.wS (k := r) (by omega)
  by_cases hlt : ((r + 1 : Nat) : Int) < rows
  ·simp +decide -implicitDefEqProofs (maxSteps := 4000000) only [go_sem, hk1, hlt]
   refine pwpC_loopU (A := { c : Nat // c + 1 ≤ cols }) [0, 3, 4, 5, 6, 7] (fun c => [(10, .t (.int .i64 c.1)), (9, .t (.int .i64 (sumT (fun k => v r k) c.1))), (8, .own (((List.range c.1).map fun k => txtB (v r k)).map .str) c.1 2)]) (fun c => [(0, .grow 0 ((numL cols (sumS v cols r c.1)).map .t) 3 1), (2, .tok c.1 9)]) (fun c => cols - c.1) ⟨0, by omega⟩ (by decide) (fun _ => by rfl) ?_ fun Q2 hQ2 ⟨c, hc⟩ I2 hI2 => ?_
   ·have hcw := fun l => cellsW_ts l (numL cols (sumS v cols r 0))
    have hau := fun e => all_ts e (numL cols (sumS v cols r 0))
    simp +decide -implicitDefEqProofs (maxSteps := 4000000) only [go_sem, show sumT (fun k => v r k) 0 = 0 from rfl, List.range_zero, List.map_nil, hcw, hau]
   ·have hk2 := Go.Pm.wS (k := c) (by omega)
    by_cases hlt2 : ((c + 1 : Nat) : Int) < cols
    ·have hrc : r * cols ≤ 4 * 5 := Nat.mul_le_mul (by omega) c5
     have hrc2 : (0 : Int) ≤ (r : Int) * cols ∧ (r : Int) * cols ≤ 20 := by
      have : ((r * cols : Nat) : Int) = (r : Int) * cols := by simp
      omega
     have w3 : IntKind.i64.wrap ((r : Int) * cols) = (r : Int) * cols := wrap_in (by omega) (by omega)
     have w4 : IntKind.i64.wrap ((r : Int) * cols + c) = (r : Int) * cols + c := wrap_in (by omega) (by omega)
     have w5 : IntKind.i64.wrap ((r : Int) * cols + c + 2) = (r : Int) * cols + c + 2 := wrap_in (by omega) (by omega)
     have hvrc := hvd r c
     have hv4 := hv r c
     have hs5 := sumT_5 hv r (show c ≤ 5 by omega)
     have w6 : IntKind.i64.wrap ((sumT (fun k => v r k) c : Int) + (v r c : Int)) = (sumT (fun k => v r k) (c + 1) : Int) := by rw [wrap_in (by omega) (by omega)]; rfl
     have hsl := sumS_le hv c5 (show r ≤ 5 by omega) c c
     have w7 : IntKind.i64.wrap ((sumS v cols r c c : Int) + (v r c : Int)) = ((sumS v cols r c c + v r c : Nat) : Int) := by rw [wrap_in (by omega) (by omega)]; omega
     have hga := get_ts (numL_at (n := cols) (sumS v cols r c) (show c < cols by omega))
     have hst := set_ts (numL cols (sumS v cols r c)) c (.int .i64 ((sumS v cols r c c + v r c : Nat) : Int)) (by rw [numL_len]; omega)
     rw [numL_set _ (by omega), numL_congr fun k _ => sumS_c (by omega) k] at hst
     have htx := rfText_of (show v r c < 100000 by omega)
     have hll : ((numL cols (sumS v cols r c)).map PV.t).length = cols := by rw [List.length_map, numL_len]
     have b1 : (c : Int) < cols := by omega
     have b2 : c < cols := by omega
     have b3 : c + 1 ≤ cols := by omega
     have hrw : (c + 1) * 16 ≤ 140737488355328 := by omega
     have hsl2 : (((List.range c).map fun k => txtB (v r k)).map TV.str).length = c := by rw [List.length_map, List.length_map, List.length_range]
     have hsn : ((List.range (c + 1)).map fun k => txtB (v r k)).map TV.str = ((List.range c).map fun k => txtB (v r k)).map TV.str ++ [.str (txtB (v r c))] := by rw [List.range_succ, List.map_append, List.map_append]; rfl
     have hcw := fun l => cellsW_ts l (numL cols (sumS v cols r (c + 1)))
     have hau := fun e => all_ts e (numL cols (sumS v cols r (c + 1)))
     simp +decide -implicitDefEqProofs (maxSteps := 4000000) only [go_sem, hk2, hlt2, w3, w4, w5, hvrc, w6, hga, w7, hst, hll, b1, b2, b3, htx, hrw, hsl2, Nat.mul_one]
     refine hI2 _ ⟨c + 1, by omega⟩ (by simp only; omega) ?_
     simp +decide -implicitDefEqProofs (maxSteps := 4000000) only [go_sem, hk2, hsn, List.range_succ, List.map_append, List.map_cons, List.map_nil, hcw, hau]
    ·have hce : c = cols - 1 := by omega
     have hsr : sumT (fun k => v r k) c = rowS v cols r := by rw [hce]; rfl
     have w3 : IntKind.i64.wrap ((cols : Int) - 1) = (c : Int) := by rw [wrap_in (by omega) (by omega)]; omega
     have hsl := sumS_le hv c5 (show r ≤ 5 by omega) c c
     have hrl := rowS_le hv c5 r
     have w7 : IntKind.i64.wrap ((sumS v cols r c c : Int) + (rowS v cols r : Int)) = ((sumS v cols r c c + rowS v cols r : Nat) : Int) := by rw [wrap_in (by omega) (by omega)]; omega
     have hga := get_ts (numL_at (n := cols) (sumS v cols r c) (show c < cols by omega))
     have hst := set_ts (numL cols (sumS v cols r c)) c (.int .i64 ((sumS v cols r c c + rowS v cols r : Nat) : Int)) (by rw [numL_len]; omega)
     rw [numL_set _ (by omega), hce, numL_congr fun k hk => sumS_r c2 hk, ← hce] at hst
     have htx := rfText_of (show rowS v cols r < 100000 by omega)
     have hll : ((numL cols (sumS v cols r c)).map PV.t).length = cols := by rw [List.length_map, numL_len]
     have b1 : (c : Int) < cols := by omega
     have b2 : c < cols := by omega
     have b3 : c + 1 ≤ cols := by omega
     have hrw : (c + 1) * 16 ≤ 140737488355328 := by omega
     have hrw2 : (r + 1) * 24 ≤ 140737488355328 := by omega
     have hsl2 : (((List.range c).map fun k => txtB (v r k)).map TV.str).length = c := by rw [List.length_map, List.length_map, List.length_range]
     have hll2 : (((wholeP v rows cols).take r).map rowF).length = r := by rw [List.length_map, List.length_take, hlen]; omega
     have hwr := hrow r (by omega)
     rw [← hce] at hwr
     have hrf : rowF ((List.range c).map (fun c => txtB (v r c)) ++ [txtB (rowS v cols r)]) = .sl (((List.range c).map fun k => txtB (v r k)).map TV.str ++ [.str (txtB (rowS v cols r))]) (c + 1) false := by
      unfold rowF
      rw [List.map_append, List.length_append, List.length_map, List.length_range]; rfl
     have hcw := fun l => cellsW_ts l (numL cols (sumS v cols (r + 1) 0))
     have hau := fun e => all_ts e (numL cols (sumS v cols (r + 1) 0))
     simp +decide -implicitDefEqProofs (maxSteps := 4000000) only [go_sem, hk2, hlt2, hsr]
     refine hQ2 _ _ ?_
     simp +decide -implicitDefEqProofs (maxSteps := 4000000) only [go_sem, w3, hga, w7, hst, hll, b1, b2, b3, htx, hrw, hrw2, hsl2, hll2, Nat.mul_one]
     refine hI1 _ ⟨r + 1, by omega⟩ (by simp only; omega) ?_
     simp +decide -implicitDefEqProofs (maxSteps := 4000000) only [go_sem, hk1, hwr, hrf, List.map_append, List.map_cons, List.map_nil, hcw, hau]
  ·have hre : r = rows - 1 := by omega
   have eW : numL cols (sumS v cols r 0) = numL cols (wholeW v rows cols r) := numL_congr fun k _ => by rw [hre]; exact sumS_W
   have hcw := fun l => cellsW_ts l (numL cols (wholeW v rows cols r))
   have hau := fun e => all_ts e (numL cols (wholeW v rows cols r))
   simp +decide -implicitDefEqProofs (maxSteps := 4000000) only [go_sem, hk1, hlt, eW]
   refine hQ1 _ _ ?_
   simp +decide -implicitDefEqProofs (maxSteps := 4000000) only [go_sem, eW]
   refine pwpC_loopU (A := { c : Nat // c ≤ cols }) [0, 3, 4, 5, 6] (fun c => [(13, .t (.int .i64 c.1)), (12, .own (((List.range c.1).map fun k => txtB (wholeW v rows cols r k)).map .str) c.1 2)]) (fun c => [(2, .tok c.1 9)]) (fun c => cols - c.1) ⟨0, by omega⟩ (by decide) (fun _ => by rfl) ?_ fun Q3 hQ3 ⟨c, hc⟩ I3 hI3 => ?_
   ·simp +decide -implicitDefEqProofs (maxSteps := 4000000) only [go_sem, List.range_zero, List.map_nil, hcw, hau]
   ·by_cases hlt3 : (c : Int) < cols
    ·have hk2 := Go.Pm.wS (k := c) (by omega)
     have hga := get_ts (numL_at (n := cols) (wholeW v rows cols r) (show c < cols by omega))
     have htx := rfText_of (hWr r c)
     have hll : ((numL cols (wholeW v rows cols r)).map PV.t).length = cols := by rw [List.length_map, numL_len]
     have b2 : c < cols := by omega
     have b3 : c + 1 ≤ cols := by omega
     have hrw : (c + 1) * 16 ≤ 140737488355328 := by omega
     have hsl2 : (((List.range c).map fun k => txtB (wholeW v rows cols r k)).map TV.str).length = c := by rw [List.length_map, List.length_map, List.length_range]
     have hsn : ((List.range (c + 1)).map fun k => txtB (wholeW v rows cols r k)).map TV.str = ((List.range c).map fun k => txtB (wholeW v rows cols r k)).map TV.str ++ [.str (txtB (wholeW v rows cols r c))] := by rw [List.range_succ, List.map_append, List.map_append]; rfl
     simp +decide -implicitDefEqProofs (maxSteps := 4000000) only [go_sem, hlt3, hga, hll, b2, b3, htx, hrw, hsl2, Nat.mul_one]
     refine hI3 _ ⟨c + 1, by omega⟩ (by simp only; omega) ?_
     simp +decide -implicitDefEqProofs (maxSteps := 4000000) only [go_sem, hk2, hsn, List.range_succ, List.map_append, List.map_cons, List.map_nil, hcw, hau]
    ·have hce : c = cols := by omega
     subst hce
     have hrw2 : (r + 1) * 24 ≤ 140737488355328 := by omega
     have hsl2 : (((List.range c).map fun k => txtB (wholeW v rows c r k)).map TV.str).length = c := by rw [List.length_map, List.length_map, List.length_range]
     have hll2 : (((wholeP v rows c).take r).map rowF).length = r := by rw [List.length_map, List.length_take, hlen]; omega
     have hc0 : ¬ c = 0 := by omega
     have hr0 : ¬ r + 1 = 0 := by omega
     have hrf : rowF ((List.range c).map fun k => txtB (wholeW v rows c r k)) = .sl (((List.range c).map fun k => txtB (wholeW v rows c r k)).map TV.str) c false := by unfold rowF; rw [List.length_map, List.length_range]
     have hR2 : R = .sl (((wholeP v rows c).take r).map rowF ++ [.sl (((List.range c).map fun k => txtB (wholeW v rows c r k)).map TV.str) c false]) (r + 1) false := by
      have hm : (wholeP v rows c).map rowF = ((wholeP v rows c).take r).map rowF ++ [.sl (((List.range c).map fun k => txtB (wholeW v rows c r k)).map TV.str) c false] := by
       conv => lhs; rw [hlast, ← hre]
       rw [List.map_append, List.map_cons, List.map_nil, hrf]
      rw [← hR]
      unfold pgF
      rw [hlen, hm, show rows = r + 1 by omega]
     simp +decide -implicitDefEqProofs (maxSteps := 4000000) only [go_sem, hlt3]
     refine hQ3 _ _ ?_
     simp +decide -implicitDefEqProofs (maxSteps := 4000000) only [go_sem, hrw2, hsl2, hll2, hc0, hr0, hR2, Nat.mul_one]
end Go.Proofs.YtdkboibnokipaaaDoor

namespace Go.Ow
open Go Go.RowKit Go.Pm
abbrev Cst := Int × Bool × List ByteArray
def stC (s : Cst) (r : WRec) : Cst := if s.2.1 = true ∧ r.num = s.1 then (if r.kind = 2 then (s.1, true, s.2.2 ++ [r.by_]) else if r.kind = 3 then (r.new, true, s.2.2) else if r.kind = 4 then (s.1, false, s.2.2) else s) else s
def stT (l : List WRec) (i : Nat) (d : Int) (r0 : WRec) (n : Nat) : Cst := ((l.drop (i + 1)).take n).foldl stC (r0.num, decide (r0.day ≤ d), [])
def stopN (l : List WRec) (i : Nat) (d : Int) : Nat := ((l.drop (i + 1)).takeWhile fun r => decide (r.day ≤ d)).length
def copyS (l : List WRec) (i : Nat) (d : Int) (r0 : WRec) : Cst := stT l i d r0 (stopN l i d)
theorem stT_succ {l : List WRec} {i n : Nat} {d : Int} {r0 r : WRec} (h : l[i + 1 + n]? = some r) : stT l i d r0 (n + 1) = stC (stT l i d r0 n) r := by
 unfold stT
 rw [List.take_add_one, List.getElem?_drop, h, Option.toList_some, List.foldl_append]; rfl
theorem stop_iff {l : List WRec} {d : Int} : ∀ {m : List WRec} {n : Nat}, n ≤ (m.takeWhile fun r => decide (r.day ≤ d)).length ↔ n ≤ m.length ∧ ∀ (j : Nat) (r : WRec), j < n → m[j]? = some r → r.day ≤ d
 | [], n => by
  simp only [List.takeWhile_nil, List.length_nil]
  exact ⟨fun h => ⟨h, fun j r hj => absurd hj (by omega)⟩, fun h => h.1⟩
 | a :: m, n => by
  by_cases h : a.day ≤ d
  ·rw [List.takeWhile_cons_of_pos (by simpa using h)]
   cases n with
   | zero => exact ⟨fun _ => ⟨Nat.zero_le _, fun j r hj => absurd hj (by omega)⟩, fun _ => Nat.zero_le _⟩
   | succ n =>
    have ih := stop_iff (l := l) (d := d) (m := m) (n := n)
    rw [List.length_cons, List.length_cons, Nat.add_le_add_iff_right, Nat.add_le_add_iff_right, ih]
    constructor
    ·rintro ⟨h1, h2⟩
     refine ⟨h1, fun j r hj hr => ?_⟩
     cases j with
     | zero => cases hr; exact h
     | succ j => exact h2 j r (by omega) hr
    ·rintro ⟨h1, h2⟩
     exact ⟨h1, fun j r hj hr => h2 (j + 1) r (by omega) hr⟩
  ·rw [List.takeWhile_cons_of_neg (by simpa using h)]
   cases n with
   | zero => exact ⟨fun _ => ⟨Nat.zero_le _, fun j r hj => absurd hj (by omega)⟩, fun _ => Nat.zero_le _⟩
   | succ n =>
    constructor
    ·intro h2; simp at h2
    ·rintro ⟨_, h2⟩
     exact absurd (h2 0 a (by omega) rfl) h
theorem stop_at {l : List WRec} {i n : Nat} {d : Int} (h : n ≤ stopN l i d) (hk : i + 1 + n = l.length ∨ ∃ r, l[i + 1 + n]? = some r ∧ ¬ r.day ≤ d) : stopN l i d = n := by
 rcases Nat.lt_or_ge n (stopN l i d) with h1 | h1
 ·have := (stop_iff (l := l) (m := l.drop (i + 1)) (d := d) (n := n + 1)).1 h1
  rcases hk with hk | ⟨r, hr, hd⟩
  ·have := this.1
   rw [List.length_drop] at this; omega
  ·exact absurd (this.2 n r (by omega) (by rw [List.getElem?_drop]; exact hr)) hd
 ·omega
theorem stop_next {l : List WRec} {i n : Nat} {d : Int} {r : WRec} (h : n ≤ stopN l i d) (hr : l[i + 1 + n]? = some r) (hd : r.day ≤ d) : n + 1 ≤ stopN l i d := by
 have h1 := (stop_iff (l := l) (m := l.drop (i + 1)) (d := d) (n := n)).1 h
 refine (stop_iff (l := l) (m := l.drop (i + 1)) (d := d) (n := n + 1)).2 ⟨?_, fun j s hj hs => ?_⟩
 ·have := (List.getElem?_eq_some_iff.1 hr).1
  rw [List.length_drop]; omega
 ·by_cases e : j = n
  ·subst e
   rw [List.getElem?_drop, hr] at hs
   cases hs; exact hd
  ·exact h1.2 j s (by omega) hs
theorem copy_fol {l : List WRec} {i : Nat} {d : Int} {r0 : WRec} (h : okTo l l.length = true) (hr0 : l[i]? = some r0) (hk0 : r0.kind = 1) : ∀ n, n ≤ stopN l i d → (stT l i d r0 n).2.1 = true → r0.day ≤ d ∧ Fol l i d (i + 1 + n) (stT l i d r0 n).1 (stT l i d r0 n).1 (stT l i d r0 n).2.2 ∧ (stT l i d r0 n).1 ≤ 99999 ∧ ∀ s ∈ (stT l i d r0 n).2.2, nameB s = true
 | 0, _, hb => by
  have hd : r0.day ≤ d := by simpa [stT] using hb
  have hf := fol_first (d := d) h hr0 hk0
  rw [if_pos hd] at hf
  have ho := ok_rec h (List.getElem?_eq_some_iff.1 hr0).1 hr0
  exact ⟨hd, hf, ho.num.2, fun s hs => by cases hs⟩
 | n + 1, hn, hb => by
  have h1 := (stop_iff (l := l) (m := l.drop (i + 1)) (d := d) (n := n + 1)).1 hn
  obtain ⟨r, hr⟩ : ∃ r, l[i + 1 + n]? = some r := ⟨_, List.getElem?_eq_getElem (by have := h1.1; rw [List.length_drop] at this; omega)⟩
  have hd := h1.2 n r (by omega) (by rw [List.getElem?_drop]; exact hr)
  have ho := ok_rec h (List.getElem?_eq_some_iff.1 hr).1 hr
  have ih := copy_fol (d := d) h hr0 hk0 n (by omega)
  rw [stT_succ hr] at hb ⊢
  obtain ⟨⟨num, b, m⟩, hs⟩ : ∃ s, stT l i d r0 n = s := ⟨_, rfl⟩
  rw [hs] at hb ih ⊢
  simp only at ih
  unfold stC at hb ⊢
  simp only at hb ⊢
  by_cases hc : b = true ∧ r.num = num
  ·obtain ⟨h2, h3, h4, h5⟩ := ih hc.1
   have hn1 := fol_not1 h h3 hr hc.2
   rw [if_pos hc] at hb ⊢
   by_cases k2 : r.kind = 2
   ·rw [if_pos k2]
    have hf := fol_mend h h3 hr hc.2 k2
    rw [if_pos hd] at hf
    refine ⟨h2, hf, h4, fun s hs => ?_⟩
    rcases List.mem_append.1 hs with hs | hs
    ·exact h5 s hs
    ·rw [List.mem_singleton] at hs
     rw [hs]; exact (ho.mend k2).1
   ·rw [if_neg k2] at hb ⊢
    by_cases k3 : r.kind = 3
    ·rw [if_pos k3]
     have hf := fol_again h h3 hr hc.2 k3
     rw [if_pos hd] at hf
     exact ⟨h2, hf, (ho.again k3).2.1.2, h5⟩
    ·rw [if_neg k3] at hb ⊢
     by_cases k4 : r.kind = 4
     ·rw [if_pos k4] at hb; cases hb
     ·rcases ho.kind with k | k | k | k
      ·exact absurd k hn1
      ·exact absurd k k2
      ·exact absurd k k3
      ·exact absurd k k4
  ·rw [if_neg hc] at hb ⊢
   simp only at hb
   obtain ⟨h2, h3, h4, h5⟩ := ih hb
   exact ⟨h2, fol_other h h3 hr fun e => hc ⟨hb, e⟩, h4, h5⟩
theorem fol_tail {l : List WRec} {i : Nat} {d : Int} (h : okTo l l.length = true) {b : Int} {m : List ByteArray} : ∀ (n k : Nat) (now : Int), n + k = l.length → Fol l i d k now b m → (∀ (j : Nat) (r : WRec), k ≤ j → l[j]? = some r → ¬ r.day ≤ d) → Brn l i d l.length b ∧ m = marksK l i d l.length
 | 0, k, now, hk, hf, _ => by
  have : k = l.length := by omega
  subst this
  exact fol_end hf
 | n + 1, k, now, hk, hf, hd => by
  obtain ⟨r, hr⟩ : ∃ r, l[k]? = some r := ⟨_, List.getElem?_eq_getElem (by omega)⟩
  have hdr := hd k r (Nat.le_refl _) hr
  have ho := ok_rec h (by omega) hr
  have nx := fun (now : Int) (hf : Fol l i d (k + 1) now b m) => fol_tail h n (k + 1) now (by omega) hf fun j r hj => hd j r (by omega)
  by_cases he : r.num = now
  ·rcases ho.kind with k1 | k2 | k3 | k4
   ·exact absurd k1 (fol_not1 h hf hr he)
   ·have hg := fol_mend h hf hr he k2
    rw [if_neg hdr] at hg
    exact nx _ hg
   ·have hg := fol_again h hf hr he k3
    rw [if_neg hdr] at hg
    exact nx _ hg
   ·have hg := fol_lost h hf hr he k4
    rw [if_neg hdr] at hg
    exact hg
  ·exact nx _ (fol_other h hf hr he)
theorem copy_true {l : List WRec} {i : Nat} {d : Int} {r0 : WRec} (hb : bookB l = true) (hd : inW d 0 100000 = true) (hr0 : l[i]? = some r0) (hk0 : r0.kind = 1) (his : (copyS l i d r0).2.1 = true) :
  bearN l (copyS l i d r0).1 d = some i ∧ marksK l i d l.length = (copyS l i d r0).2.2 ∧ inW (copyS l i d r0).1 1 99999 = true ∧ (nameB r0.by_ = true ∧ inW r0.day 0 100000 = true) ∧ (copyS l i d r0).2.2.length ≤ 40 ∧ (copyS l i d r0).2.2.all nameB = true := by
 have hbk := book_ok hb
 have h := hbk.2
 obtain ⟨h1, h2, h3, h4⟩ := copy_fol h hr0 hk0 (stopN l i d) (Nat.le_refl _) his
 have hil := (List.getElem?_eq_some_iff.1 hr0).1
 have hsl := ((stop_iff (l := l) (m := l.drop (i + 1)) (d := d) (n := stopN l i d)).1 (Nat.le_refl _)).1
 rw [List.length_drop] at hsl
 have hlate : ∀ (j : Nat) (r : WRec), i + 1 + stopN l i d ≤ j → l[j]? = some r → ¬ r.day ≤ d := fun j r hj hr hle => by
  have hjl := (List.getElem?_eq_some_iff.1 hr).1
  obtain ⟨s, hs⟩ : ∃ s, l[i + 1 + stopN l i d]? = some s := ⟨_, List.getElem?_eq_getElem (by omega)⟩
  have hm := day_mono h hj hjl hs hr
  have := stop_next (Nat.le_refl _) hs (Int.le_trans hm hle)
  omega
 obtain ⟨q1, q2⟩ := fol_tail h (l.length - (i + 1 + stopN l i d)) (i + 1 + stopN l i d) _ (by omega) h2 hlate
 have ho := ok_rec h hil hr0
 have hnn := dayB_nn (ok_less h (Nat.le_of_lt hil))
 have hpos := h2.pos
 unfold copyS at his ⊢
 refine ⟨(brn_bear q1 hpos).2 rfl, q2.symm, inW_iff.2 ⟨hpos, h3⟩, ⟨(ho.made hk0).1, inW_iff.2 (by have := ho.day; omega)⟩, ?_, List.all_eq_true.2 h4⟩
 rw [q2]
 have := marksK_len (l := l) (i := i) (d := d) (k := l.length)
 omega
def forgB : ByteArray := ⟨#[102, 111, 114, 103, 101, 114, 45, 111, 102, 45, 116, 104, 105, 110, 103, 115]⟩
def zzB : ByteArray := ⟨#[122, 122, 122, 122]⟩
theorem forg_name : nameB forgB = true := by decide +kernel
theorem zz_name : nameB zzB = true := by decide +kernel
theorem diff_self (a : List ByteArray) : diffP a a = none := diffP_none fun j hj => by
 unfold diffAt
 rw [decide_eq_false (show ¬ a.length ≤ j by omega), decide_eq_true rfl]; rfl
theorem diff_ins {a : List ByteArray} {k : Nat} (hk : k ≤ a.length) (hz : ∀ x, a[k]? = some x → ¬ x = zzB) : diffP a (a.take k ++ [zzB] ++ a.drop k) = some k := by
 have hl : (a.take k ++ [zzB] ++ a.drop k).length = a.length + 1 := by simp; omega
 refine diffP_some (by rw [hl]; omega) (fun j hj => ?_) ?_
 ·unfold diffAt
  rw [hl, decide_eq_false (show ¬ a.length ≤ j by omega), decide_eq_false (show ¬ a.length + 1 ≤ j by omega)]
  have : (a.take k ++ [zzB] ++ a.drop k).getD j ByteArray.empty = a.getD j ByteArray.empty := by
   rw [List.getD_eq_getElem?_getD, List.getD_eq_getElem?_getD, List.append_assoc, List.getElem?_append_left (by rw [List.length_take]; omega), List.getElem?_take, if_pos hj]
  rw [this, decide_eq_true rfl]; rfl
 ·unfold diffAt
  by_cases h : a.length ≤ k
  ·rw [decide_eq_true h]; rfl
  ·have e1 : (a.take k ++ [zzB] ++ a.drop k).getD k ByteArray.empty = zzB := by
    rw [List.getD_eq_getElem?_getD, List.append_assoc, List.getElem?_append_right (by rw [List.length_take]; omega), List.length_take, show k - min k a.length = 0 by omega]; rfl
   have e2 : a[k]? = some (a.getD k ByteArray.empty) := by rw [List.getD_eq_getElem?_getD, List.getElem?_eq_getElem (by omega)]; rfl
   have := hz _ e2
   rw [e1, decide_eq_false this]; simp
theorem diff_last {a : List ByteArray} (h : a.length ≠ 0) : diffP a (a.take (a.length - 1)) = some (a.length - 1) := by
 have hl : (a.take (a.length - 1)).length = a.length - 1 := by rw [List.length_take]; omega
 refine diffP_some (by omega) (fun j hj => ?_) ?_
 ·unfold diffAt
  rw [hl, decide_eq_false (show ¬ a.length ≤ j by omega), decide_eq_false (show ¬ a.length - 1 ≤ j by omega), List.getD_eq_getElem?_getD, List.getD_eq_getElem?_getD, List.getElem?_take, if_pos hj, decide_eq_true rfl]; rfl
 ·unfold diffAt
  rw [hl, decide_eq_true (Nat.le_refl _)]; simp
end Go.Ow
namespace Go.Proofs.YtdkboibnokipaaaDoor
open Go.RowKit Go.Pm Go.Ow
theorem oCopied_c {l : List WRec} {f : Bool} (hL : l.length ≤ 40) {i : Nat} {d : Int} {r0 : WRec} (hr0 : l[i]? = some r0) : PCalls Tryd.prog 43 [.sl (recL l) l.length f, .int .i64 i, .int .i64 d] (.tup [.agg [.int .i64 (copyS l i d r0).1, .int .i64 d, .str r0.by_, .int .i64 r0.day, txT (copyS l i d r0).2.2], .bool (copyS l i d r0).2.1]) := by
 have hil := (List.getElem?_eq_some_iff.1 hr0).1
 have d0 := recL_at hr0
 have hle0 : i * 5 + 5 ≤ (recL l).length := by rw [recL_len]; omega
 have bi : (i : Int) < l.length := by omega
 have wi := Go.Pm.wS (k := i) (by omega)
 have h00 : stT l i d r0 0 = (r0.num, decide (r0.day ≤ d), []) := rfl
 obtain ⟨R, hR⟩ : ∃ R, TV.tup [.agg [.int .i64 (copyS l i d r0).1, .int .i64 d, .str r0.by_, .int .i64 r0.day, txT (copyS l i d r0).2.2], .bool (copyS l i d r0).2.1] = R := ⟨_, rfl⟩
 rw [hR]
 unfold copyS at hR
 obtain ⟨S, hS⟩ : ∃ S : Nat → Cst, S = stT l i d r0 := ⟨_, rfl⟩
 rw [← hS] at hR h00
 have hsucc : ∀ (n : Nat) (r : WRec), l[i + 1 + n]? = some r → S (n + 1) = stC (S n) r := fun n r hr => by rw [hS]; exact stT_succ hr
 obtain ⟨kind0, day0, num0, by0, new0⟩ := r0
 simp only at h00 hR
 have hmk : ∀ n, (S n).2.2.length ≤ n := fun n => by
  induction n with
  | zero => rw [h00]; exact Nat.le_refl _
  | succ n ih =>
   cases hr : l[i + 1 + n]? with
   | none =>
    have : S (n + 1) = S n := by
     rw [hS]
     unfold stT
     rw [List.take_add_one, List.getElem?_drop, hr]; simp
    rw [this]; omega
   | some r =>
    rw [hsucc n r hr]
    unfold stC
    split
    ·split
     ·simp only [List.length_append, List.length_cons, List.length_nil]; omega
     ·split
      ·simp only; omega
      ·split
       ·simp only; omega
       ·omega
    ·omega
 refine pcalls_by Tryd.mixes (Spec.gdt_ok noSpec_ok) (fn := Tryd.f43) Tryd.func43 rfl (by kernel_rfl) (by show 3 ≤ _; decide) ?_
 simp +decide -implicitDefEqProofs (maxSteps := 4000000) only [go_sem, Tryd.f43, bi, d0, hle0, recT, wi, Nat.mul_one]
 refine pwpC_loopU (A := { n : Nat // n ≤ stopN l i d ∧ i + 1 + n ≤ l.length }) [0, 2, 6, 8] (fun n => [(10, .t (.int .i64 ((i + 1 + n.1 : Nat) : Int))), (9, .t (.bool (S n.1).2.1))]) (fun n => [(1, .box [.t (.int .i64 (S n.1).1), .t (.int .i64 d), .t (.str by0), .t (.int .i64 day0), .own ((S n.1).2.2.map .str) (S n.1).2.2.length 2]), (2, .tok (S n.1).2.2.length 9)]) (fun n => l.length - n.1) ⟨0, Nat.zero_le _, by omega⟩ (by decide) (fun _ => by rfl) ?_ fun Q1 hQ1 ⟨n, hn, hnl⟩ I1 hI1 => ?_
 ·simp +decide -implicitDefEqProofs (maxSteps := 4000000) only [go_sem, h00, List.map_nil, List.length_nil]
 ·obtain ⟨⟨num, b, m⟩, hs⟩ : ∃ s, S n = s := ⟨_, rfl⟩
  have hml := hmk n
  rw [hs] at hml
  simp only at hml
  have hk1 : IntKind.i64.wrap (((i + 1 + n : Nat) : Int) + 1) = ((i + 1 + (n + 1) : Nat) : Int) := by rw [wrap_in (by omega) (by omega)]; omega
  have hend : (i + 1 + n = l.length ∨ ∃ r, l[i + 1 + n]? = some r ∧ ¬ r.day ≤ d) → TV.tup [.agg [.int .i64 num, .int .i64 d, .str by0, .int .i64 day0, txT m], .bool b] = R := fun h => by
   rw [stop_at hn h, hs] at hR
   exact hR
  by_cases hlt : ((i + 1 + n : Nat) : Int) < l.length
  ·obtain ⟨r, hr⟩ : ∃ r, l[i + 1 + n]? = some r := ⟨_, List.getElem?_eq_getElem (by omega)⟩
   have d1 := recL_at hr
   have hle : (i + 1 + n) * 5 + 5 ≤ (recL l).length := by rw [recL_len]; omega
   have hst := hsucc n r hr
   rw [hs] at hst
   unfold stC at hst
   obtain ⟨kind, day, num1, by1, new⟩ := r
   simp only at hst hend
   by_cases hd : day ≤ d
   ·have hnx := stop_next hn hr hd
    by_cases hc : b = true ∧ num1 = num
    ·obtain ⟨rfl, rfl⟩ := hc
     rw [if_pos ⟨rfl, rfl⟩] at hst
     have c1 : (num1 != num1) = false := by simp
     by_cases k2 : kind = 2
     ·rw [if_pos k2] at hst
      have c2 : (kind == 2) = true := by rw [k2]; rfl
      have hrw : (m.length + 1) * 16 ≤ 140737488355328 := by omega
      have hmm : (m.map TV.str).length = m.length := List.length_map _
      simp +decide -implicitDefEqProofs (maxSteps := 4000000) only [go_sem, hs, hlt, d1, hle, recT, hd, c1, c2, hrw, hmm, Nat.mul_one]
      refine hI1 _ ⟨n + 1, hnx, by omega⟩ (by simp only; omega) ?_
      simp +decide -implicitDefEqProofs (maxSteps := 4000000) only [go_sem, hk1, hst, List.map_append, List.map_cons, List.map_nil, List.length_append, List.length_cons, List.length_nil]
     ·rw [if_neg k2] at hst
      have c2 : (kind == 2) = false := by rw [beq_eq_false_iff_ne]; exact k2
      by_cases k3 : kind = 3
      ·rw [if_pos k3] at hst
       have c3 : (kind == 3) = true := by rw [k3]; rfl
       simp +decide -implicitDefEqProofs (maxSteps := 4000000) only [go_sem, hs, hlt, d1, hle, recT, hd, c1, c2, c3, Nat.mul_one]
       refine hI1 _ ⟨n + 1, hnx, by omega⟩ (by simp only; omega) ?_
       simp +decide -implicitDefEqProofs (maxSteps := 4000000) only [go_sem, hk1, hst]
      ·rw [if_neg k3] at hst
       have c3 : (kind == 3) = false := by rw [beq_eq_false_iff_ne]; exact k3
       by_cases k4 : kind = 4
       ·rw [if_pos k4] at hst
        have c4 : (kind == 4) = true := by rw [k4]; rfl
        simp +decide -implicitDefEqProofs (maxSteps := 4000000) only [go_sem, hs, hlt, d1, hle, recT, hd, c1, c2, c3, c4, Nat.mul_one]
        refine hI1 _ ⟨n + 1, hnx, by omega⟩ (by simp only; omega) ?_
        simp +decide -implicitDefEqProofs (maxSteps := 4000000) only [go_sem, hk1, hst]
       ·rw [if_neg k4] at hst
        have c4 : (kind == 4) = false := by rw [beq_eq_false_iff_ne]; exact k4
        simp +decide -implicitDefEqProofs (maxSteps := 4000000) only [go_sem, hs, hlt, d1, hle, recT, hd, c1, c2, c3, c4, Nat.mul_one]
        refine hI1 _ ⟨n + 1, hnx, by omega⟩ (by simp only; omega) ?_
        simp +decide -implicitDefEqProofs (maxSteps := 4000000) only [go_sem, hk1, hst]
    ·rw [if_neg hc] at hst
     by_cases hnm : num1 = num
     ·have hbf : b = false := by
       cases b with
       | false => rfl
       | true => exact absurd ⟨rfl, hnm⟩ hc
      subst hbf hnm
      have c1 : (num1 != num1) = false := by simp
      simp +decide -implicitDefEqProofs (maxSteps := 4000000) only [go_sem, hs, hlt, d1, hle, recT, hd, c1, Nat.mul_one]
      refine hI1 _ ⟨n + 1, hnx, by omega⟩ (by simp only; omega) ?_
      simp +decide -implicitDefEqProofs (maxSteps := 4000000) only [go_sem, hk1, hst]
     ·have c1 : (num1 != num) = true := by rw [bne_iff_ne]; exact hnm
      simp +decide -implicitDefEqProofs (maxSteps := 4000000) only [go_sem, hs, hlt, d1, hle, recT, hd, c1, Nat.mul_one]
      refine hI1 _ ⟨n + 1, hnx, by omega⟩ (by simp only; omega) ?_
      simp +decide -implicitDefEqProofs (maxSteps := 4000000) only [go_sem, hk1, hst]
   ·have hRe := hend (.inr ⟨_, hr, hd⟩)
    unfold txT at hRe
    by_cases h0 : m.length = 0
    ·rw [if_pos h0] at hRe
     simp +decide -implicitDefEqProofs (maxSteps := 4000000) only [go_sem, hs, hlt, d1, hle, recT, hd, Nat.mul_one]
     refine hQ1 _ _ ?_
     simp +decide -implicitDefEqProofs (maxSteps := 4000000) only [go_sem, h0, ← hRe]
    ·rw [if_neg h0] at hRe
     simp +decide -implicitDefEqProofs (maxSteps := 4000000) only [go_sem, hs, hlt, d1, hle, recT, hd, Nat.mul_one]
     refine hQ1 _ _ ?_
     simp +decide -implicitDefEqProofs (maxSteps := 4000000) only [go_sem, h0, ← hRe]
  ·have hRe := hend (.inl (by omega))
   unfold txT at hRe
   by_cases h0 : m.length = 0
   ·rw [if_pos h0] at hRe
    simp +decide -implicitDefEqProofs (maxSteps := 4000000) only [go_sem, hs, hlt]
    refine hQ1 _ _ ?_
    simp +decide -implicitDefEqProofs (maxSteps := 4000000) only [go_sem, h0, ← hRe]
   ·rw [if_neg h0] at hRe
    simp +decide -implicitDefEqProofs (maxSteps := 4000000) only [go_sem, hs, hlt]
    refine hQ1 _ _ ?_
    simp +decide -implicitDefEqProofs (maxSteps := 4000000) only [go_sem, h0, ← hRe]
end Go.Proofs.YtdkboibnokipaaaDoor

namespace Go.Proofs.YtdkboibnokipaaaDoor
open Go.RowKit Go.Pm Go.Ow
theorem wInt {k : Nat} {cs : List TV} (h : cellsOk Tryd.prog (k + 1) 3 cs) : ∃ n, cs = [.int .i64 n] ∧ -9223372036854775808 ≤ n ∧ n ≤ 9223372036854775807 := cellsOk_i64 (by kernel_rfl) h
theorem wStr {k : Nat} {cs : List TV} (h : cellsOk Tryd.prog (k + 1) 9 cs) : ∃ s : ByteArray, cs = [.str s] := by
 unfold cellsOk at h
 rw [Tryd.underlying9] at h
 obtain ⟨s, h, _⟩ := h
 exact ⟨s, h⟩
theorem wBook {x : TV} {k : Nat} (h : cellsOk Tryd.prog (k + 3) 39 [x]) : ∃ l : List WRec, bkT x l ∧ l.length ≤ 140737488355328 := by
 obtain ⟨l, h1, h2, h3, h4⟩ := cellsOk_row (e := 66) (c := recT) (p := fun _ => True) (by kernel_rfl) (fun cs hc => by
  have h := cellsOk_tys (ts := [3, 3, 3, 9, 3]) (by kernel_rfl) hc
  obtain ⟨_, r, rfl, h1, h⟩ := seqOk_cons h
  obtain ⟨_, r, rfl, h2, h⟩ := seqOk_cons h
  obtain ⟨_, r, rfl, h3, h⟩ := seqOk_cons h
  obtain ⟨_, r, rfl, h4, h⟩ := seqOk_cons h
  obtain ⟨_, r, rfl, h5, h⟩ := seqOk_cons h
  cases seqOk_nil h
  obtain ⟨a, rfl, _⟩ := wInt h1
  obtain ⟨b, rfl, _⟩ := wInt h2
  obtain ⟨c, rfl, _⟩ := wInt h3
  obtain ⟨d, rfl⟩ := wStr h4
  obtain ⟨e, rfl, _⟩ := wInt h5
  exact ⟨⟨a, b, c, d, e⟩, rfl, trivial⟩) h
 rw [show Program.bytesOf Tryd.prog 66 = 48 by kernel_rfl] at h3
 unfold reachBytes at h3
 exact ⟨l, h1, by omega⟩
theorem bookArg {x : TV} (h : argOk Tryd.prog 39 x) : ∃ l : List WRec, bkT x l ∧ l.length ≤ 140737488355328 := wBook (argOk_sl (e := 66) (by kernel_rfl) h)
theorem twoArg {x : TV} (h : argOk Tryd.prog 40 x) : ∃ a b, x = .agg [.int .i64 a, .int .i64 b] ∧ (-9223372036854775808 ≤ a ∧ a ≤ 9223372036854775807) ∧ (-9223372036854775808 ≤ b ∧ b ≤ 9223372036854775807) := by
 obtain ⟨cs, rfl, h'⟩ := argOk_agg (ts := [3, 3]) (by kernel_rfl) h
 have h := cellsOk_tys (ts := [3, 3]) (by kernel_rfl) h'
 obtain ⟨_, r, rfl, h1, h⟩ := seqOk_cons h
 obtain ⟨_, r, rfl, h2, h⟩ := seqOk_cons h
 cases seqOk_nil h
 obtain ⟨a, rfl, ia⟩ := wInt h1
 obtain ⟨b, rfl, ib⟩ := wInt h2
 exact ⟨a, b, rfl, ia, ib⟩
end Go.Proofs.YtdkboibnokipaaaDoor

namespace Go.Proofs.YtdkboibnokipaaaDoor
open Go.RowKit Go.Pm Go.Ow
theorem intsArg {x : TV} (h : argOk Tryd.prog 52 x) : ∃ l : List Int, ((x = .nilSl ∧ l = []) ∨ ∃ f, x = .sl (l.map (.int .i64)) l.length f) ∧ l.length ≤ 140737488355328 ∧ ∀ n ∈ l, -9223372036854775808 ≤ n ∧ n ≤ 9223372036854775807 := by
 obtain ⟨l, h1, h2, h3, h4⟩ := cellsOk_row (e := 3) (c := fun n : Int => [TV.int .i64 n]) (p := fun n => -9223372036854775808 ≤ n ∧ n ≤ 9223372036854775807) (by kernel_rfl) (fun cs hc => by
  obtain ⟨a, rfl, ha⟩ := wInt hc
  exact ⟨a, rfl, ha⟩) (argOk_sl (e := 3) (by kernel_rfl) h)
 rw [show Program.bytesOf Tryd.prog 3 = 8 by kernel_rfl] at h3
 unfold reachBytes at h3
 have hf : ∀ m : List Int, m.flatMap (fun n => [TV.int .i64 n]) = m.map (.int .i64) := fun m => by induction m with
  | nil => rfl
  | cons a m ih => rw [List.flatMap_cons, ih]; rfl
 rw [hf] at h1
 exact ⟨l, h1, by omega, h2⟩
end Go.Proofs.YtdkboibnokipaaaDoor

namespace Go.Proofs.YtdkboibnokipaaaDoor
open Go.RowKit Go.Pm Go.Ow
theorem wk_glob {w : World} {l : List (String × DataW Unit)} (hm : ("octant/wreck.kinds", Rows.laid_octant_wreck_kinds) ∈ l) (h : laidMetH Tryd.prog l w) : GlobOk (allF w) := by
 have hf := h.funcs (n := "octant/wreck.kinds") (d := .agg [.iface "func" (.lit (.string [40, 111, 99, 116, 97, 110, 116, 47, 119, 114, 101, 99, 107, 46, 98, 111, 111, 107, 41, 46, 109, 97, 100, 101])), .iface "func" (.lit (.string [40, 111, 99, 116, 97, 110, 116, 47, 119, 114, 101, 99, 107, 46, 98, 111, 111, 107, 41, 46, 109, 101, 110, 100, 101, 100])), .iface "func" (.lit (.string [40, 111, 99, 116, 97, 110, 116, 47, 119, 114, 101, 99, 107, 46, 98, 111, 111, 107, 41, 46, 97, 103, 97, 105, 110])), .iface "func" (.lit (.string [40, 111, 99, 116, 97, 110, 116, 47, 119, 114, 101, 99, 107, 46, 98, 111, 111, 107, 41, 46, 108, 111, 115, 116]))]) hm
 obtain ⟨g, t, cs, fuel, p, hg, ht, hv, hd⟩ := hf
 have hg0 : Tryd.prog.globalNamed "octant/wreck.kinds" = some 0 := by kernel_rfl
 have ht0 : (Tryd.prog.globals[0]?).map (·.type) = some 129 := by kernel_rfl
 obtain rfl := Option.some.inj (hg0.symm.trans hg)
 obtain rfl := Option.some.inj (ht0.symm.trans ht)
 have hd' : DataW.trod (funcToken Tryd.prog) Tryd.prog w 0 (fun _ => true) true fuel 129 cs.toList = some (.agg [.held [40, 111, 99, 116, 97, 110, 116, 47, 119, 114, 101, 99, 107, 46, 98, 111, 111, 107, 41, 46, 109, 97, 100, 101], .held [40, 111, 99, 116, 97, 110, 116, 47, 119, 114, 101, 99, 107, 46, 98, 111, 111, 107, 41, 46, 109, 101, 110, 100, 101, 100], .held [40, 111, 99, 116, 97, 110, 116, 47, 119, 114, 101, 99, 107, 46, 98, 111, 111, 107, 41, 46, 97, 103, 97, 105, 110], .held [40, 111, 99, 116, 97, 110, 116, 47, 119, 114, 101, 99, 107, 46, 98, 111, 111, 107, 41, 46, 108, 111, 115, 116]], p) := hd
 obtain ⟨xs, m, _, ex, hcl, hl, hel⟩ := DataW.trod_array Tryd.underlying129 hd'
 have hce : Tryd.prog.cellsOf 128 = 1 := by kernel_rfl
 have hct : Tryd.prog.cellsOf 129 = 4 := by kernel_rfl
 rw [hct] at hcl
 simp only [Prod.mk.injEq, DataW.agg.injEq] at ex
 obtain ⟨ex, _⟩ := ex
 match xs, hl, ex, hel with
 | [x0, x1, x2, x3], _, ex, hel =>
  simp only [List.map_cons, List.map_nil, List.cons.injEq, and_true] at ex
  obtain ⟨y0, y1, y2, y3⟩ := ex
  obtain ⟨x0a, x0b⟩ := x0
  obtain ⟨x1a, x1b⟩ := x1
  obtain ⟨x2a, x2b⟩ := x2
  obtain ⟨x3a, x3b⟩ := x3
  simp only at y0 y1 y2 y3
  subst y0; subst y1; subst y2; subst y3
  match hcc : cs.toList, hcl with
  | [v0, v1, v2, v3], _ =>
   rw [hcc, hce] at hel
   have h0 := hel 0 (by omega)
   have h1 := hel 1 (by omega)
   have h2 := hel 2 (by omega)
   have h3 := hel 3 (by omega)
   obtain rfl := func_of_trod (f0 := 163) Tryd.underlying128 (by kernel_rfl) h0
   obtain rfl := func_of_trod (f0 := 164) Tryd.underlying128 (by kernel_rfl) h1
   obtain rfl := func_of_trod (f0 := 160) Tryd.underlying128 (by kernel_rfl) h2
   obtain rfl := func_of_trod (f0 := 165) Tryd.underlying128 (by kernel_rfl) h3
   have hcell : ∀ i, w.cell? ⟨0, i, none⟩ = [Value.func (.func 163) #[] #[], .func (.func 164) #[] #[], .func (.func 160) #[] #[], .func (.func 165) #[] #[]][i]? := fun i => by
    have := World.var?_cell hg hv i
    rw [this, ← Array.getElem?_toList, hcc]
   intro g cs hc
   have hc2 : globs.lookup g = some cs := hc
   by_cases hg1 : g = 0
   ·subst hg1
    have e : cs = [.fn 163 [] [], .fn 164 [] [], .fn 160 [] [], .fn 165 [] []] := (Option.some.inj (show some _ = some cs from hc)).symm
    rw [e]
    refine .cptr _ _ [Value.func (.func 163) #[] #[], .func (.func 164) #[] #[], .func (.func 160) #[] #[], .func (.func 165) #[] #[]] rfl (fun i u hi => ⟨?_, ?_⟩) (fun i c u hi hj => ?_)
    ·rw [add_plain, Nat.zero_add]
     show w.cell? _ = some u
     rw [hcell]; exact hi
    ·match i, hi with
     | 0, hi => cases hi; rfl
     | 1, hi => cases hi; rfl
     | 2, hi => cases hi; rfl
     | 3, hi => cases hi; rfl
    ·match i, hi, hj with
     | 0, hi, hj => cases hi; cases hj; exact .fn _ [] [] [] [] rfl (fun i c u h => by cases h) rfl (fun i c u h => by cases h)
     | 1, hi, hj => cases hi; cases hj; exact .fn _ [] [] [] [] rfl (fun i c u h => by cases h) rfl (fun i c u h => by cases h)
     | 2, hi, hj => cases hi; cases hj; exact .fn _ [] [] [] [] rfl (fun i c u h => by cases h) rfl (fun i c u h => by cases h)
     | 3, hi, hj => cases hi; cases hj; exact .fn _ [] [] [] [] rfl (fun i c u h => by cases h) rfl (fun i c u h => by cases h)
   ·exfalso
    simp [globs, List.lookup] at hc2
    split at hc2 <;> simp_all
noncomputable def wk_start (os : Os) : World := (World.doorLaid Tryd.prog 24 os).layVars Tryd.prog [("unicode/utf8.acceptRanges", Rows.laid_unicode_utf8_acceptRanges), ("unicode/utf8.first", Rows.laid_unicode_utf8_first)]
theorem wk_start_os (os : Os) : (wk_start os).os = os := World.layVars_os _ _ _
theorem wk_met (os : Os) (args : Array Value) : laidMetH Tryd.prog [("unicode/utf8.acceptRanges", Rows.laid_unicode_utf8_acceptRanges), ("octant/wreck.kinds", Rows.laid_octant_wreck_kinds), ("unicode/utf8.first", Rows.laid_unicode_utf8_first)] ((wk_start os).forCall (fun _ _ => 0) ⟨#[], args, []⟩).memory := by
 refine laidMetH_of_parts3 (fuel := 8) ?_ (by kernel_rfl) (by kernel_rfl)
 have e0 : ([("unicode/utf8.acceptRanges", Rows.laid_unicode_utf8_acceptRanges), ("octant/wreck.kinds", Rows.laid_octant_wreck_kinds), ("unicode/utf8.first", Rows.laid_unicode_utf8_first)] : List (String × DataW Unit)).filter (fun x => x.2.handleName?.isNone) = [("unicode/utf8.acceptRanges", Rows.laid_unicode_utf8_acceptRanges), ("unicode/utf8.first", Rows.laid_unicode_utf8_first)] := by kernel_rfl
 rw [e0]
 have e1 : ([("unicode/utf8.acceptRanges", Rows.laid_unicode_utf8_acceptRanges), ("unicode/utf8.first", Rows.laid_unicode_utf8_first)] : List (String × DataW Unit)).filter (fun x => ["unicode/utf8.acceptRanges", "unicode/utf8.first"].contains x.1) = [("unicode/utf8.acceptRanges", Rows.laid_unicode_utf8_acceptRanges), ("unicode/utf8.first", Rows.laid_unicode_utf8_first)] := by kernel_rfl
 have e2 : ([("unicode/utf8.acceptRanges", Rows.laid_unicode_utf8_acceptRanges), ("unicode/utf8.first", Rows.laid_unicode_utf8_first)] : List (String × DataW Unit)).filter (fun x => !["unicode/utf8.acceptRanges", "unicode/utf8.first"].contains x.1) = [] := by kernel_rfl
 have h : laidMet Tryd.prog [("unicode/utf8.acceptRanges", Rows.laid_unicode_utf8_acceptRanges), ("unicode/utf8.first", Rows.laid_unicode_utf8_first)] (wk_start os) := laidMet_layVars (w0 := World.doorLaid Tryd.prog 24 os) ["unicode/utf8.acceptRanges", "unicode/utf8.first"] [] (by rw [e1]; rfl) (by rw [e1]; kernel_rfl) (by rw [e1]; kernel_rfl) (by rw [e2]; exact LaidIn.none)
 exact h.of_heap (by simp [World.memory, World.forCall, Input.heap])
theorem wk_shaped (os : Os) (args : Array Value) : ((wk_start os).forCall (fun _ _ => 0) ⟨#[], args, []⟩).Shaped Tryd.prog := World.shaped_of_ZipB (by kernel_rfl) (by kernel_rfl)
end Go.Proofs.YtdkboibnokipaaaDoor

namespace Go.Ow
open Go Go.RowKit Go.Pm
theorem judge_mk {l : List WRec} {c : WCl} {i : Nat} {r : WRec} (hb : bookB l = true) (hh : headOk c = true) (hm : c.marks.all nameB = true) (hbe : bearN l c.num c.day = some i) (hr : l[i]? = some r) (h1 : ¬ r.by_ = c.maker) : judgeP l c = ((2, 0), 0) := by
 unfold judgeP
 rw [if_pos hb, hh, hm]
 simp only [Bool.and_self, if_true, hbe, hr]
 rw [if_pos h1]
theorem judge_day {l : List WRec} {c : WCl} {i : Nat} {r : WRec} (hb : bookB l = true) (hh : headOk c = true) (hm : c.marks.all nameB = true) (hbe : bearN l c.num c.day = some i) (hr : l[i]? = some r) (h1 : r.by_ = c.maker) (h2 : ¬ r.day = c.made) : judgeP l c = ((3, 0), 0) := by
 unfold judgeP
 rw [if_pos hb, hh, hm]
 simp only [Bool.and_self, if_true, hbe, hr]
 rw [if_neg (by simpa using h1), if_pos h2]
theorem judge_marks {l : List WRec} {c : WCl} {i : Nat} {r : WRec} (hb : bookB l = true) (hh : headOk c = true) (hm : c.marks.all nameB = true) (hbe : bearN l c.num c.day = some i) (hr : l[i]? = some r) (h1 : r.by_ = c.maker) (h2 : r.day = c.made) {k : Nat} (h3 : diffP (marksK l i c.day l.length) c.marks = some k) : judgeP l c = ((4, (k : Int)), 0) := by
 unfold judgeP
 rw [if_pos hb, hh, hm]
 simp only [Bool.and_self, if_true, hbe, hr]
 rw [if_neg (by simpa using h1), if_neg (by simpa using h2), h3]
theorem judge_ok {l : List WRec} {c : WCl} {i : Nat} {r : WRec} (hb : bookB l = true) (hh : headOk c = true) (hm : c.marks.all nameB = true) (hbe : bearN l c.num c.day = some i) (hr : l[i]? = some r) (h1 : r.by_ = c.maker) (h2 : r.day = c.made) (h3 : diffP (marksK l i c.day l.length) c.marks = none) : judgeP l c = ((0, 0), 0) := by
 unfold judgeP
 rw [if_pos hb, hh, hm]
 simp only [Bool.and_self, if_true, hbe, hr]
 rw [if_neg (by simpa using h1), if_neg (by simpa using h2), h3]
end Go.Ow
namespace Go.Proofs.YtdkboibnokipaaaDoor
open Go.RowKit Go.Pm Go.Ow
open Classical in
noncomputable def wkJudgeT (s : TV) (l : List WRec) : List TV → Option TV
 | [t, .agg [.int .i64 n, .int .i64 d, .str mk, .int .i64 md, ms]] => if h : ∃ marks, t = s ∧ txR ms marks ∧ marks.length ≤ 140737488355328 then some (judT (judgeP l ⟨n, d, mk, md, Classical.choose h⟩)) else none
 | _ => none
open Classical in
theorem wkJudgeT_of {s ms : TV} {l : List WRec} {n d md : Int} {mk : ByteArray} {marks : List ByteArray} (h1 : txR ms marks) (h2 : marks.length ≤ 140737488355328) : wkJudgeT s l [s, .agg [.int .i64 n, .int .i64 d, .str mk, .int .i64 md, ms]] = some (judT (judgeP l ⟨n, d, mk, md, marks⟩)) := by
 have h : ∃ marks, s = s ∧ txR ms marks ∧ marks.length ≤ 140737488355328 := ⟨marks, rfl, h1, h2⟩
 show (if h : ∃ marks, s = s ∧ txR ms marks ∧ marks.length ≤ 140737488355328 then some (judT (judgeP l ⟨n, d, mk, md, Classical.choose h⟩)) else none) = _
 rw [dif_pos h]
 rw [txR_inj (Classical.choose_spec h).2.1 h1]
open Classical in
theorem wkJudgeT_ok {s : TV} {l : List WRec} (hs : bkT s l) (hL : l.length ≤ 140737488355328) : ∀ a r, wkJudgeT s l a = some r → PCalls Tryd.prog 30 a r := by
 intro a r h
 unfold wkJudgeT at h
 split at h
 ·split at h
  ·rename_i hx
   cases h
   have hc := Classical.choose_spec hx
   obtain ⟨m, hm⟩ : ∃ m, Classical.choose hx = m := ⟨_, rfl⟩
   rw [hm] at hc ⊢
   obtain ⟨rfl, h1, h2⟩ := hc
   exact wJudge_c (c := ⟨_, _, _, _, m⟩) hs hL h1 h2
  ·cases h
 ·cases h
theorem txT_R (l : List ByteArray) : txR (txT l) l := by
 unfold txT
 by_cases h : l.length = 0
 ·rw [if_pos h]; exact .inl ⟨rfl, List.length_eq_zero_iff.1 h⟩
 ·rw [if_neg h]; exact .inr ⟨_, rfl⟩
noncomputable def spFg (s : TV) (l : List WRec) (i : Nat) (d : Int) (C : TV) : Pm.Spec := (((((noSpec.one 33 rfMod).one 28 (oneP [s] (.int .i64 0))).one 26 (by2P s fun a b => some (.tup [.int .i64 (traceP l a b).1, .int .i64 (traceP l a b).2]))).one 30 (wkJudgeT s l)).one 43 (oneP [s, .int .i64 i, .int .i64 d] C)).one 21 (oneP [] (.bool true))
theorem WreckForged_c {s : TV} {l : List WRec} (hs : bkT s l) (hL : l.length ≤ 140737488355328) (n0 n1 m0 m1 : Int) : PCalls Tryd.prog 10 [s, .agg [.int .i64 n0, .int .i64 n1], .agg [.int .i64 m0, .int .i64 m1]] (.bool true) := by
 have hC := wCheckBook_c hs hL
 by_cases hb : bookB l = true
 rotate_left
 ·rw [if_neg hb] at hC
  refine pcalls_by Tryd.mixes (Spec.gdt_ok (Spec.one_ok (oneP_ok hC) (Spec.one_ok (oneP_ok oWorks_c) noSpec_ok))) (fn := Tryd.f10) Tryd.func10 rfl (by kernel_rfl) (by show 3 ≤ _; decide) ?_
  simp +decide -implicitDefEqProofs (maxSteps := 4000000) only [go_sem, Tryd.f10]
 rw [hb, if_pos rfl] at hC
 have h40 := (book_ok hb).1
 by_cases h0 : l.length = 0
 ·refine pcalls_by Tryd.mixes (Spec.gdt_ok (Spec.one_ok (oneP_ok hC) (Spec.one_ok (oneP_ok oWorks_c) noSpec_ok))) (fn := Tryd.f10) Tryd.func10 rfl (by kernel_rfl) (by show 3 ≤ _; decide) ?_
  rcases hs with ⟨rfl, rfl⟩ | ⟨f, rfl⟩
  ·simp +decide -implicitDefEqProofs (maxSteps := 4000000) only [go_sem, Tryd.f10]
  ·have h0' : ((l.length : Int) == 0) = true := by simp [h0]
   simp +decide -implicitDefEqProofs (maxSteps := 4000000) only [go_sem, Tryd.f10, h0']
 obtain ⟨f, rfl⟩ : ∃ f, s = .sl (recL l) l.length f := by
  rcases hs with ⟨_, rfl⟩ | h
  ·exact absurd rfl h0
  ·exact h
 have hz : ((l.length : Int) == 0) = false := by rw [beq_eq_false_iff_ne]; omega
 have hgt : ¬ (l.length : Int) > 40 := by omega
 have q1 : (0 : Int) < l.length := by omega
 have q2 : (l.length : Int) ≤ 9223372036854775807 := by omega
 have e1 := Int.emod_nonneg n0 (show (l.length : Int) ≠ 0 by omega)
 have e2 := Int.emod_lt_of_pos n0 q1
 obtain ⟨i, hi⟩ : ∃ i : Nat, n0 % (l.length : Int) = (i : Int) := ⟨(n0 % (l.length : Int)).toNat, by omega⟩
 obtain ⟨r0, hr0⟩ : ∃ r, l[i]? = some r := ⟨_, List.getElem?_eq_getElem (by omega)⟩
 obtain ⟨d, hd⟩ : ∃ d, n1 % 100001 = d := ⟨_, rfl⟩
 have hdi : inW d 0 100000 = true := inW_iff.2 (by omega)
 have bi : (i : Int) < l.length := by omega
 have d0 := recL_at hr0
 have hle0 : i * 5 + 5 ≤ (recL l).length := by rw [recL_len]; omega
 have hcp := oCopied_c (f := f) h40 (d := d) hr0
 have hct := copy_true (d := d) hb hdi hr0
 have hsp : ∀ C, PCalls Tryd.prog 43 [.sl (recL l) l.length f, .int .i64 i, .int .i64 d] C → SpecOk Tryd.prog (spFg (.sl (recL l) l.length f) l i d C).gdt := fun C hc => Spec.gdt_ok (Spec.one_ok (oneP_ok oWorks_c) (Spec.one_ok (oneP_ok hc) (Spec.one_ok (wkJudgeT_ok (.inr ⟨f, rfl⟩) hL) (Spec.one_ok (by2P_ok fun a b v e => by cases e; exact wTrace_c (.inr ⟨f, rfl⟩) hL a b) (Spec.one_ok (oneP_ok hC) (Spec.one_ok rfMod_ok noSpec_ok))))))
 obtain ⟨kind0, day0, num0, by0, new0⟩ := r0
 simp only at hcp hct
 obtain ⟨⟨num, is, marks⟩, hcs⟩ : ∃ c, copyS l i d ⟨kind0, day0, num0, by0, new0⟩ = c := ⟨_, rfl⟩
 rw [hcs] at hcp hct
 simp only at hcp hct
 by_cases hk : kind0 = 1
 rotate_left
 ·have c1 : (kind0 != 1) = true := by rw [bne_iff_ne]; exact hk
  refine pcalls_by Tryd.mixes (hsp _ hcp) (fn := Tryd.f10) Tryd.func10 rfl (by kernel_rfl) (by show 3 ≤ _; decide) ?_
  simp +decide -implicitDefEqProofs (maxSteps := 4000000) only [go_sem, Tryd.f10, spFg, hz, hgt, q1, q2, hi, hd, bi, d0, hle0, recT, c1, Nat.mul_one]
 subst hk
 by_cases his : is = true
 rotate_left
 ·have his : is = false := by simpa using his
  subst his
  refine pcalls_by Tryd.mixes (hsp _ hcp) (fn := Tryd.f10) Tryd.func10 rfl (by kernel_rfl) (by show 3 ≤ _; decide) ?_
  simp +decide -implicitDefEqProofs (maxSteps := 4000000) only [go_sem, Tryd.f10, spFg, hz, hgt, q1, q2, hi, hd, bi, d0, hle0, recT, Nat.mul_one]
 subst his
 obtain ⟨c1, c2, c3, ⟨c4, c5⟩, c6, c7⟩ := hct rfl rfl
 have kt : traceP l num d = ((i : Int), 0) := by unfold traceP; rw [if_pos hb, c3, hdi, c1]; rfl
 have hH : ∀ (mk : ByteArray) (md : Int) (ms : List ByteArray), nameB mk = true → inW md 0 100000 = true → ms.length ≤ 40 → headOk ⟨num, d, mk, md, ms⟩ = true := fun mk md ms a1 a2 a3 => by
  unfold headOk
  simp only
  rw [c3, hdi, a1, a2, decide_eq_true a3]; rfl
 have j0 : judgeP l ⟨num, d, by0, day0, marks⟩ = ((0, 0), 0) := judge_ok (c := ⟨num, d, by0, day0, marks⟩) hb (hH by0 day0 marks c4 c5 c6) c7 c1 hr0 rfl rfl (by simp only; rw [c2]; exact diff_self _)
 have k0 : wkJudgeT (.sl (recL l) l.length f) l [.sl (recL l) l.length f, .agg [.int .i64 num, .int .i64 d, .str by0, .int .i64 day0, txT marks]] = some (judT ((0, 0), 0)) := by rw [wkJudgeT_of (txT_R marks) (by omega), j0]
 have g5 := inW_iff.1 c5
 obtain ⟨q, hq⟩ : ∃ q, m0 % 4 = q := ⟨_, rfl⟩
 have hq4 : q = 0 ∨ q = 1 ∨ q = 2 ∨ q = 3 := by omega
 have v1 : (0 : Int) < (marks.length : Int) + 1 := by omega
 have v2 : (marks.length : Int) + 1 ≤ 9223372036854775807 := by omega
 have e3 := Int.emod_nonneg m1 (show (marks.length : Int) + 1 ≠ 0 by omega)
 have e4 := Int.emod_lt_of_pos m1 v1
 obtain ⟨a, ha⟩ : ∃ a : Nat, m1 % ((marks.length : Int) + 1) = (a : Int) := ⟨(m1 % ((marks.length : Int) + 1)).toNat, by omega⟩
 have hal : a ≤ marks.length := by omega
 have w1 : IntKind.i64.wrap ((marks.length : Int) + 1) = (marks.length : Int) + 1 := wrap_in (by omega) (by omega)
 -- another maker
 have jA : ¬ by0 = forgB → wkJudgeT (.sl (recL l) l.length f) l [.sl (recL l) l.length f, .agg [.int .i64 num, .int .i64 d, .str forgB, .int .i64 day0, txT marks]] = some (judT ((2, 0), 0)) := fun h => by
  rw [wkJudgeT_of (txT_R marks) (by omega), judge_mk (c := ⟨num, d, forgB, day0, marks⟩) hb (hH forgB day0 marks forg_name c5 c6) c7 c1 hr0 h]
 -- another day
 obtain ⟨y, hy⟩ : ∃ y, m1 % 50 = y := ⟨_, rfl⟩
 have w2 : IntKind.i64.wrap (day0 + 1) = day0 + 1 := wrap_in (by omega) (by omega)
 have w3 : IntKind.i64.wrap (day0 + 1 + y) = day0 + 1 + y := wrap_in (by omega) (by omega)
 obtain ⟨md, hmd⟩ : ∃ z, (day0 + 1 + y) % 100001 = z := ⟨_, rfl⟩
 have jB : wkJudgeT (.sl (recL l) l.length f) l [.sl (recL l) l.length f, .agg [.int .i64 num, .int .i64 d, .str by0, .int .i64 md, txT marks]] = some (judT ((3, 0), 0)) := by
  have hne : ¬ day0 = md := by omega
  rw [wkJudgeT_of (txT_R marks) (by omega), judge_day (c := ⟨num, d, by0, md, marks⟩) hb (hH by0 md marks c4 (inW_iff.2 (by omega)) c6) c7 c1 hr0 rfl hne]
 -- one mark more
 have jC : ∀ ms : TV, txR ms (marks.take a ++ [zzB] ++ marks.drop a) → marks.length + 1 ≤ 40 → (∀ x, marks[a]? = some x → ¬ x = zzB) → wkJudgeT (.sl (recL l) l.length f) l [.sl (recL l) l.length f, .agg [.int .i64 num, .int .i64 d, .str by0, .int .i64 day0, ms]] = some (judT ((4, (a : Int)), 0)) := fun ms hms hlm hzz => by
  have hl2 : (marks.take a ++ [zzB] ++ marks.drop a).length = marks.length + 1 := by simp; omega
  have hall : (marks.take a ++ [zzB] ++ marks.drop a).all nameB = true := by
   rw [List.all_eq_true] at c7 ⊢
   intro x hx
   simp only [List.mem_append, List.mem_singleton] at hx
   rcases hx with (hx | hx) | hx
   ·exact c7 x (List.mem_of_mem_take hx)
   ·rw [hx]; exact zz_name
   ·exact c7 x (List.mem_of_mem_drop hx)
  rw [wkJudgeT_of hms (by rw [hl2]; omega), judge_marks (c := ⟨num, d, by0, day0, marks.take a ++ [zzB] ++ marks.drop a⟩) hb (hH by0 day0 _ c4 c5 (by rw [hl2]; exact hlm)) hall c1 hr0 rfl rfl (by simp only; rw [c2]; exact diff_ins hal hzz)]
 -- the last mark is missing
 have jD : ∀ ms : TV, marks.length ≠ 0 → txR ms (marks.take (marks.length - 1)) → wkJudgeT (.sl (recL l) l.length f) l [.sl (recL l) l.length f, .agg [.int .i64 num, .int .i64 d, .str by0, .int .i64 day0, ms]] = some (judT ((4, ((marks.length - 1 : Nat) : Int)), 0)) := fun ms hne hms => by
  have hl2 : (marks.take (marks.length - 1)).length ≤ 40 := by rw [List.length_take]; omega
  have hall : (marks.take (marks.length - 1)).all nameB = true := by
   rw [List.all_eq_true] at c7 ⊢
   exact fun x hx => c7 x (List.mem_of_mem_take hx)
  rw [wkJudgeT_of hms (by omega), judge_marks (c := ⟨num, d, by0, day0, marks.take (marks.length - 1)⟩) hb (hH by0 day0 _ c4 c5 hl2) hall c1 hr0 rfl rfl (by simp only; rw [c2]; exact diff_last hne)]
 have cc : ((i : Int) != (i : Int)) = false := by simp
 by_cases hm0 : marks.length = 0
 ·have hmn : marks = [] := List.length_eq_zero_iff.1 hm0
  subst hmn
  have ha0 : a = 0 := by omega
  subst ha0
  rw [txT_nil] at hcp k0 jA jB
  have ha' : m1 % 1 = 0 := by omega
  have w11 : IntKind.i64.wrap 1 = 1 := rfl
  rcases hq4 with rfl | rfl | rfl | rfl
  ·by_cases hby : by0 = forgB
   ·have hbq := beqS by0 forgB
    rw [decide_eq_true hby] at hbq
    unfold forgB at hbq
    refine pcalls_by Tryd.mixes (hsp _ hcp) (fn := Tryd.f10) Tryd.func10 rfl (by kernel_rfl) (by show 3 ≤ _; decide) ?_
    simp +decide -implicitDefEqProofs (maxSteps := 4000000) only [go_sem, Tryd.f10, spFg, hz, hgt, q1, q2, hi, hd, bi, d0, hle0, recT, kt, k0, judT, cc, ha', w11, hq, hbq, Nat.mul_one]
   ·have hbq := beqS by0 forgB
    rw [decide_eq_false hby] at hbq
    have jA := jA hby
    unfold forgB at hbq jA
    refine pcalls_by Tryd.mixes (hsp _ hcp) (fn := Tryd.f10) Tryd.func10 rfl (by kernel_rfl) (by show 3 ≤ _; decide) ?_
    simp +decide -implicitDefEqProofs (maxSteps := 4000000) only [go_sem, Tryd.f10, spFg, hz, hgt, q1, q2, hi, hd, bi, d0, hle0, recT, kt, k0, judT, cc, ha', w11, hq, hbq, jA, Nat.mul_one]
  ·refine pcalls_by Tryd.mixes (hsp _ hcp) (fn := Tryd.f10) Tryd.func10 rfl (by kernel_rfl) (by show 3 ≤ _; decide) ?_
   simp +decide -implicitDefEqProofs (maxSteps := 4000000) only [go_sem, Tryd.f10, spFg, hz, hgt, q1, q2, hi, hd, bi, d0, hle0, recT, kt, k0, judT, cc, ha', w11, hq, hy, w2, w3, hmd, jB, Nat.mul_one]
  ·have jC := jC (.sl [.str zzB] 1 false) (.inr ⟨false, rfl⟩) (by simp) (fun x hx => by simp at hx)
   unfold zzB at jC
   refine pcalls_by Tryd.mixes (hsp _ hcp) (fn := Tryd.f10) Tryd.func10 rfl (by kernel_rfl) (by show 3 ≤ _; decide) ?_
   simp +decide -implicitDefEqProofs (maxSteps := 4000000) only [go_sem, Tryd.f10, spFg, hz, hgt, q1, q2, hi, hd, bi, d0, hle0, recT, kt, k0, judT, cc, ha', w11, hq, jC, Nat.mul_one]
  ·refine pcalls_by Tryd.mixes (hsp _ hcp) (fn := Tryd.f10) Tryd.func10 rfl (by kernel_rfl) (by show 3 ≤ _; decide) ?_
   simp +decide -implicitDefEqProofs (maxSteps := 4000000) only [go_sem, Tryd.f10, spFg, hz, hgt, q1, q2, hi, hd, bi, d0, hle0, recT, kt, k0, judT, cc, ha', w11, hq, Nat.mul_one]
 ·rw [txT_ne hm0] at hcp k0 jA jB
  have hmz : ((marks.length : Int) == 0) = false := by rw [beq_eq_false_iff_ne]; omega
  rcases hq4 with rfl | rfl | rfl | rfl
  ·by_cases hby : by0 = forgB
   ·have hbq := beqS by0 forgB
    rw [decide_eq_true hby] at hbq
    unfold forgB at hbq
    refine pcalls_by Tryd.mixes (hsp _ hcp) (fn := Tryd.f10) Tryd.func10 rfl (by kernel_rfl) (by show 3 ≤ _; decide) ?_
    simp +decide -implicitDefEqProofs (maxSteps := 4000000) only [go_sem, Tryd.f10, spFg, hz, hgt, q1, q2, hi, hd, bi, d0, hle0, recT, kt, k0, judT, cc, w1, v1, v2, ha, hq, hbq, Nat.mul_one]
   ·have hbq := beqS by0 forgB
    rw [decide_eq_false hby] at hbq
    have jA := jA hby
    unfold forgB at hbq jA
    refine pcalls_by Tryd.mixes (hsp _ hcp) (fn := Tryd.f10) Tryd.func10 rfl (by kernel_rfl) (by show 3 ≤ _; decide) ?_
    simp +decide -implicitDefEqProofs (maxSteps := 4000000) only [go_sem, Tryd.f10, spFg, hz, hgt, q1, q2, hi, hd, bi, d0, hle0, recT, kt, k0, judT, cc, w1, v1, v2, ha, hq, hbq, jA, Nat.mul_one]
  ·refine pcalls_by Tryd.mixes (hsp _ hcp) (fn := Tryd.f10) Tryd.func10 rfl (by kernel_rfl) (by show 3 ≤ _; decide) ?_
   simp +decide -implicitDefEqProofs (maxSteps := 4000000) only [go_sem, Tryd.f10, spFg, hz, hgt, q1, q2, hi, hd, bi, d0, hle0, recT, kt, k0, judT, cc, w1, v1, v2, ha, hq, hy, w2, w3, hmd, jB, Nat.mul_one]
  ·have b5 : (a : Int) ≤ marks.length := by omega
   have hmm : (marks.map TV.str).length = marks.length := List.length_map _
   have htk : (marks.map TV.str).take marks.length = marks.map TV.str := List.take_of_length_le (by rw [hmm]; exact Nat.le_refl _)
   have hl1 : ((marks.map TV.str).take a).length = a := by rw [List.length_take, hmm]; omega
   have hl2 : ((marks.map TV.str).drop a).length = marks.length - a := by rw [List.length_drop, hmm]
   have hao1 := allO_ts ((marks.map TV.str).take a)
   have hao2 := allO_ts ((marks.map TV.str).drop a)
   have hao3 := allO_ts (marks.map TV.str)
   have ro1 : a * 16 ≤ 140737488355328 := by omega
   have ro2 : (a + 1) * 16 ≤ 140737488355328 := by omega
   have ro3 : (marks.length + 1) * 16 ≤ 140737488355328 := by omega
   have hN : a + 1 + (marks.length - a) = marks.length + 1 := by omega
   have hN2 : 1 + marks.length = marks.length + 1 := by omega
   have w5 : IntKind.i64.wrap (((marks.length + 1 : Nat) : Int) - 1) = (marks.length : Int) := by rw [wrap_in (by omega) (by omega)]; omega
   have w6 := Go.Pm.wS (k := a) (by omega)
   have jR : ∀ ms : TV, ms = .sl ((marks.map TV.str).take a ++ [.str zzB] ++ (marks.map TV.str).drop a) (marks.length + 1) false → txR ms (marks.take a ++ [zzB] ++ marks.drop a) := fun ms h => .inr ⟨false, by
    rw [h, List.map_append, List.map_append, List.map_take, List.map_drop]
    have : (marks.take a ++ [zzB] ++ marks.drop a).length = marks.length + 1 := by simp; omega
    rw [this]; rfl⟩
   by_cases hae : a = marks.length
   ·have jC := fun h => jC _ (jR _ rfl) h (fun x hx => by rw [hae, List.getElem?_eq_none (Nat.le_refl _)] at hx; cases hx)
    subst hae
    have hdn : (marks.map TV.str).drop marks.length = [] := List.drop_eq_nil_of_le (by rw [hmm]; exact Nat.le_refl _)
    rw [htk, hdn, List.append_nil] at jC
    unfold zzB at jC
    have hlA : (marks.map TV.str ++ [TV.str ⟨#[122, 122, 122, 122]⟩]).length = marks.length + 1 := by simp
    have c8 : ¬ (marks.length : Int) < (marks.length : Int) := by omega
    by_cases h41 : ((marks.length + 1 : Nat) : Int) > 40
    ·refine pcalls_by Tryd.mixes (hsp _ hcp) (fn := Tryd.f10) Tryd.func10 rfl (by kernel_rfl) (by show 3 ≤ _; decide) ?_
     simp +decide -implicitDefEqProofs (maxSteps := 4000000) only [go_sem, Tryd.f10, spFg, hz, hgt, q1, q2, hi, hd, bi, d0, hle0, recT, kt, k0, judT, cc, w1, v1, v2, ha, hq, hmz, hm0, b5, hmm, htk, hao3, ro1, ro2, hdn, hlA, w5, c8, h41, List.nil_append, Nat.zero_add, Nat.sub_self, Nat.mul_one]
    ·have jC := jC (by omega)
     refine pcalls_by Tryd.mixes (hsp _ hcp) (fn := Tryd.f10) Tryd.func10 rfl (by kernel_rfl) (by show 3 ≤ _; decide) ?_
     simp +decide -implicitDefEqProofs (maxSteps := 4000000) only [go_sem, Tryd.f10, spFg, hz, hgt, q1, q2, hi, hd, bi, d0, hle0, recT, kt, k0, judT, cc, w1, v1, v2, ha, hq, hmz, hm0, b5, hmm, htk, hao3, ro1, ro2, hdn, hlA, w5, c8, h41, jC, List.nil_append, Nat.zero_add, Nat.sub_self, Nat.mul_one]
   ·obtain ⟨x, hx⟩ : ∃ x, marks[a]? = some x := ⟨_, List.getElem?_eq_getElem (by omega)⟩
    have dx := txs_at hx
    have c8 : (a : Int) < (marks.length : Int) := by omega
    have c9 : ((a + 1 : Nat) : Int) < ((marks.length + 1 : Nat) : Int) := by omega
    have hml0 : ¬ marks.length - a = 0 := by omega
    have hbx := beqS x zzB
    have jC := fun (h1 : ¬ x = zzB) (h2 : marks.length + 1 ≤ 40) => jC _ (jR _ rfl) h2 (fun y hy => by rw [hx] at hy; cases hy; exact h1)
    have hlA : ((marks.map TV.str).take a ++ [TV.str ⟨#[122, 122, 122, 122]⟩]).length = a + 1 := by rw [List.length_append, hl1]; rfl
    have hlB : ((marks.map TV.str).take a ++ [TV.str ⟨#[122, 122, 122, 122]⟩] ++ (marks.map TV.str).drop a).length = marks.length + 1 := by rw [List.length_append, hlA, hl2]; omega
    have hlC : ((marks.map TV.str).take a ++ ([TV.str ⟨#[122, 122, 122, 122]⟩] ++ (marks.map TV.str).drop a)).length = marks.length + 1 := by rw [← List.append_assoc]; exact hlB
    have hdd : ((marks.map TV.str).take a ++ [TV.str ⟨#[122, 122, 122, 122]⟩] ++ (marks.map TV.str).drop a).drop (a + 1) = .str x :: (marks.map TV.str).drop (a + 1) := by
     have h1 := List.drop_append_of_le_length (l₁ := (marks.map TV.str).take a ++ [TV.str ⟨#[122, 122, 122, 122]⟩]) (l₂ := (marks.map TV.str).drop a) (i := a + 1) (by rw [hlA]; exact Nat.le_refl _)
     rw [h1, List.drop_of_length_le (by rw [hlA]; exact Nat.le_refl _), List.nil_append, dx]
    have ro4 : (a + 1 + (marks.length - a)) * 16 ≤ 140737488355328 := by omega
    unfold zzB at jC hbx
    by_cases ha0 : a = 0
    ·subst ha0
     have w11 : IntKind.i64.wrap 1 = 1 := rfl
     have c10 : (0 : Int) < marks.length := by omega
     have c11 : (1 : Int) < ((marks.length + 1 : Nat) : Int) := by omega
     have ro5 : (1 + marks.length) * 16 ≤ 140737488355328 := by omega
     rw [List.take_zero, List.drop_zero, List.nil_append] at jC
     obtain ⟨T, hT⟩ : ∃ T, marks.map TV.str = .str x :: T := ⟨_, by rw [List.drop_zero] at dx; exact dx⟩
     have hTl : T.length + 1 = marks.length := by
      have := congrArg List.length hT
      rw [hmm, List.length_cons] at this
      omega
     rw [hT] at jC hcp k0 hmm htk
     by_cases hxz : x = ⟨#[122, 122, 122, 122]⟩
     ·rw [decide_eq_true hxz] at hbx
      refine pcalls_by Tryd.mixes (hsp _ hcp) (fn := Tryd.f10) Tryd.func10 rfl (by kernel_rfl) (by show 3 ≤ _; decide) ?_
      simp +decide -implicitDefEqProofs (maxSteps := 4000000) only [go_sem, Tryd.f10, spFg, hz, hgt, q1, q2, hi, hd, bi, d0, hle0, recT, kt, k0, judT, cc, w1, v1, v2, ha, hq, hmz, hm0, b5, hT, hTl, hmm, htk, w11, hN2, ro3, ro5, w5, c10, c11, hbx, List.take_zero, List.drop_zero, List.nil_append, List.cons_append, List.drop_succ_cons, Nat.sub_zero, Nat.mul_one]
     ·rw [decide_eq_false hxz] at hbx
      have jC := jC hxz
      by_cases h41 : ((marks.length + 1 : Nat) : Int) > 40
      ·refine pcalls_by Tryd.mixes (hsp _ hcp) (fn := Tryd.f10) Tryd.func10 rfl (by kernel_rfl) (by show 3 ≤ _; decide) ?_
       simp +decide -implicitDefEqProofs (maxSteps := 4000000) only [go_sem, Tryd.f10, spFg, hz, hgt, q1, q2, hi, hd, bi, d0, hle0, recT, kt, k0, judT, cc, w1, v1, v2, ha, hq, hmz, hm0, b5, hT, hTl, hmm, htk, w11, hN2, ro3, ro5, w5, c10, c11, hbx, h41, List.take_zero, List.drop_zero, List.nil_append, List.cons_append, List.drop_succ_cons, Nat.sub_zero, Nat.mul_one]
      ·have jC : wkJudgeT (.sl (recL l) l.length f) l [.sl (recL l) l.length f, .agg [.int .i64 num, .int .i64 d, .str by0, .int .i64 day0, .sl (.str ⟨#[122, 122, 122, 122]⟩ :: .str x :: T) (marks.length + 1) false]] = some (judT ((4, 0), 0)) := jC (by omega)
       refine pcalls_by Tryd.mixes (hsp _ hcp) (fn := Tryd.f10) Tryd.func10 rfl (by kernel_rfl) (by show 3 ≤ _; decide) ?_
       simp +decide -implicitDefEqProofs (maxSteps := 4000000) only [go_sem, Tryd.f10, spFg, hz, hgt, q1, q2, hi, hd, bi, d0, hle0, recT, kt, k0, judT, cc, w1, v1, v2, ha, hq, hmz, hm0, b5, hT, hTl, hmm, htk, w11, hN2, ro3, ro5, w5, c10, c11, hbx, h41, jC, List.take_zero, List.drop_zero, List.nil_append, List.cons_append, List.drop_succ_cons, Nat.sub_zero, Nat.mul_one]
    ·by_cases hxz : x = ⟨#[122, 122, 122, 122]⟩
     ·rw [decide_eq_true hxz] at hbx
      refine pcalls_by Tryd.mixes (hsp _ hcp) (fn := Tryd.f10) Tryd.func10 rfl (by kernel_rfl) (by show 3 ≤ _; decide) ?_
      simp +decide -implicitDefEqProofs (maxSteps := 4000000) only [go_sem, Tryd.f10, spFg, hz, hgt, q1, q2, hi, hd, bi, d0, hle0, recT, kt, k0, judT, cc, w1, v1, v2, ha, hq, hmz, hm0, b5, ha0, hmm, htk, hl1, hl2, hlA, hlB, hlC, hao1, hao2, ro1, ro2, ro3, ro4, hN, hml0, w5, w6, c8, c9, hdd, hbx, List.drop_zero, List.nil_append, Nat.zero_add, Nat.sub_zero, Nat.mul_one]
     ·rw [decide_eq_false hxz] at hbx
      have jC := jC hxz
      by_cases h41 : ((marks.length + 1 : Nat) : Int) > 40
      ·refine pcalls_by Tryd.mixes (hsp _ hcp) (fn := Tryd.f10) Tryd.func10 rfl (by kernel_rfl) (by show 3 ≤ _; decide) ?_
       simp +decide -implicitDefEqProofs (maxSteps := 4000000) only [go_sem, Tryd.f10, spFg, hz, hgt, q1, q2, hi, hd, bi, d0, hle0, recT, kt, k0, judT, cc, w1, v1, v2, ha, hq, hmz, hm0, b5, ha0, hmm, htk, hl1, hl2, hlA, hlB, hlC, hao1, hao2, ro1, ro2, ro3, ro4, hN, hml0, w5, w6, c8, c9, hdd, hbx, h41, List.drop_zero, List.nil_append, Nat.zero_add, Nat.sub_zero, Nat.mul_one]
      ·have jC := jC (by omega)
       refine pcalls_by Tryd.mixes (hsp _ hcp) (fn := Tryd.f10) Tryd.func10 rfl (by kernel_rfl) (by show 3 ≤ _; decide) ?_
       simp +decide -implicitDefEqProofs (maxSteps := 4000000) only [go_sem, Tryd.f10, spFg, hz, hgt, q1, q2, hi, hd, bi, d0, hle0, recT, kt, k0, judT, cc, w1, v1, v2, ha, hq, hmz, hm0, b5, ha0, hmm, htk, hl1, hl2, hlA, hlB, hlC, hao1, hao2, ro1, ro2, ro3, ro4, hN, hml0, w5, w6, c8, c9, hdd, hbx, h41, jC, List.drop_zero, List.nil_append, Nat.zero_add, Nat.sub_zero, Nat.mul_one]
  ·have w4 : IntKind.i64.wrap ((marks.length : Int) - 1) = ((marks.length - 1 : Nat) : Int) := by rw [wrap_in (by omega) (by omega)]; omega
   have b4 : ((marks.length - 1 : Nat) : Int) ≤ marks.length := by omega
   have hmm : (marks.map TV.str).length = marks.length := List.length_map _
   have jD := jD (.sl ((marks.map TV.str).take (marks.length - 1)) (marks.length - 1) false) hm0 (.inr ⟨false, by rw [List.map_take, List.length_take, Nat.min_eq_left (by omega)]⟩)
   refine pcalls_by Tryd.mixes (hsp _ hcp) (fn := Tryd.f10) Tryd.func10 rfl (by kernel_rfl) (by show 3 ≤ _; decide) ?_
   simp +decide -implicitDefEqProofs (maxSteps := 4000000) only [go_sem, Tryd.f10, spFg, hz, hgt, q1, q2, hi, hd, bi, d0, hle0, recT, kt, k0, judT, cc, w1, v1, v2, ha, hq, hmz, w4, b4, hmm, jD, Nat.mul_one]
end Go.Proofs.YtdkboibnokipaaaDoor

namespace Go.Proofs.YtdkboibnokipaaaDoor
open Go.RowKit Go.Pm Go.Ow
open Classical in
noncomputable def rfDrown (S : TV) (p : Pg) (Y : TV) (l : List Int) : List TV → Option TV
 | [t, .int .i64 n, u] => if t = S ∧ u = Y ∧ 0 ≤ n ∧ n ≤ 5 then some (drT S p l n.toNat) else none
 | _ => none
open Classical in
theorem rfDrown_ok {S Y : TV} {p : Pg} {l : List Int} (hs : pgR S p) (hok : shpOk p) (hY : inR Y l) (hl : l.length ≤ 140737488355328) : ∀ a r, rfDrown S p Y l a = some r → PCalls Tryd.prog 35 a r := by
 intro a r h
 unfold rfDrown at h
 split at h
 ·rename_i t n u
  split at h
  ·rename_i hc
   obtain ⟨rfl, rfl, h0, h5⟩ := hc
   cases h
   have := rDrown_c hs hok hY hl (m := n.toNat) (by omega)
   rw [show ((n.toNat : Nat) : Int) = n by omega] at this
   exact this
  ·cases h
 ·cases h
open Classical in
theorem rfDrown_of (S : TV) (p : Pg) (Y : TV) (l : List Int) {m : Nat} (h : m ≤ 5) : rfDrown S p Y l [S, .int .i64 (m : Int), Y] = some (drT S p l m) := by
 show (if S = S ∧ Y = Y ∧ (0 : Int) ≤ (m : Int) ∧ (m : Int) ≤ 5 then some (drT S p l (m : Int).toNat) else none) = _
 rw [if_pos ⟨rfl, rfl, by omega, by omega⟩, Int.toNat_natCast]
noncomputable def spSv (X : TV) (S : TV) (p : Pg) (Y : TV) (l : List Int) : Pm.Spec := (((((((noSpec.one 33 rfMod).one 34 (rfPick Y l)).one 32 (oneP [X] S)).one 35 (rfDrown S p Y l)).one 14 wkRestT).one 36 rLikeT).one 16 rSmT).one 21 (oneP [] (.bool true))
theorem WreckSaves_c {X Y : TV} {bits lost : List Int} (hb : inR X bits) (lb : bits.length ≤ 140737488355328 ∧ ∀ n ∈ bits, -9223372036854775808 ≤ n ∧ n ≤ 9223372036854775807) (hl : inR Y lost) (ll : lost.length ≤ 140737488355328 ∧ ∀ n ∈ lost, -9223372036854775808 ≤ n ∧ n ≤ 9223372036854775807) : PCalls Tryd.prog 6 [X, Y] (.bool true) := by
 obtain ⟨⟨r2, r5⟩, ⟨c2, c5⟩, hvn⟩ := num_bounds bits
 have hW := rWhole_c hb lb.1
 obtain ⟨hv, h0, hg⟩ : validB (chosenP bits) = true ∧ placesP (chosenP bits) = [] ∧ agE (chosenP bits) (fun _ => none) = true := whole_ok (hvn _) ⟨r2, r5⟩ ⟨c2, c5⟩
 obtain ⟨p, hp⟩ : ∃ p, chosenP bits = p := ⟨_, rfl⟩
 rw [hp] at hW hv h0 hg
 have hok := (valid_iff.1 hv).1
 have hpR := pgF_R p
 obtain ⟨S, hS⟩ : ∃ S, pgF p = S := ⟨_, rfl⟩
 rw [hS] at hW hpR
 obtain ⟨m, hm, hm5⟩ := emod_nat (n := pkN lost 0) (b := 5) (by decide)
 have hm' : pkN lost 0 % 5 = (m : Int) := hm
 obtain ⟨s1, s2, s3, s4, s5⟩ := saves hv h0 hg (dA p lost) (m := m) (by omega) (dA_in hok lost m)
 have hv1 := drown_valid hv h0 (dA p lost) (m := m) (by omega)
 have hv2 := drown_valid hv h0 (dA p lost) (m := m + 1) (by omega)
 have k1 := rfDrown_of S p Y lost (m := m) (by omega)
 have k2 := rfDrown_of S p Y lost (m := m + 1) (by omega)
 have g1 := wkRestT_of (drT_R hpR lost m)
 have g2 := wkRestT_of (drT_R hpR lost (m + 1))
 rw [if_pos hv1] at g1
 rw [if_pos hv2] at g2
 have sh1 := (rest_shp (drown p (dA p lost) m)).trans (drown_shp p (dA p lost) m)
 have sh2 := (rest_shp (drown p (dA p lost) (m + 1))).trans (drown_shp p (dA p lost) (m + 1))
 have n1 : readG (drown p (dA p lost) m) ≠ [] := fun e => by rw [e] at s1; simp at s1
 have n2 : readG (drown p (dA p lost) (m + 1)) ≠ [] := fun e => by rw [e] at s2; simp at s2; exact n1 s2
 have e1 : restT (drown p (dA p lost) m) = .tup [pgV (restP (drown p (dA p lost) m)), .int .i64 (readG (drown p (dA p lost) m)).length, .int .i64 0] := by unfold restT; rw [if_neg n1]
 have e2 : restT (drown p (dA p lost) (m + 1)) = .tup [pgV (restP (drown p (dA p lost) (m + 1))), .int .i64 (readG (drown p (dA p lost) (m + 1))).length, .int .i64 0] := by unfold restT; rw [if_neg n2]
 rw [e1] at g1
 rw [e2] at g2
 have l1 := rLikeT_of (pgV_R (restP (drown p (dA p lost) m))) hpR ((shpOk_iff sh1).2 hok) sh1.symm fun a ha hne => s3 a ((shp_in sh1 a).1 ha) hne
 have l2 := rLikeT_of (pgV_R (restP (drown p (dA p lost) (m + 1)))) (pgV_R (restP (drown p (dA p lost) m))) ((shpOk_iff sh2).2 hok) (sh1.trans sh2.symm) fun a ha hne => s4 a ((shp_in sh2 a).1 ha) hne
 have hsm : (readG (drown p (dA p lost) m)).length = 1 → rSmT [pgV (restP (drown p (dA p lost) m)), S] = some (.bool true) := fun h => by
  have k := rSmT_of (pgV_R (restP (drown p (dA p lost) m))) hpR (by rw [s5 h]; exact valid_small hv)
  rw [s5 h, decide_eq_true rfl] at k
  rw [s5 h]
  exact k
 have hz1 := readG_size (valid_iff.1 hv1).2.2
 obtain ⟨A, hA⟩ : ∃ A, pgV (restP (drown p (dA p lost) m)) = A := ⟨_, rfl⟩
 obtain ⟨B, hB⟩ : ∃ B, pgV (restP (drown p (dA p lost) (m + 1))) = B := ⟨_, rfl⟩
 obtain ⟨N, hN⟩ : ∃ N, (readG (drown p (dA p lost) m)).length = N := ⟨_, rfl⟩
 obtain ⟨M, hM⟩ : ∃ M, (readG (drown p (dA p lost) (m + 1))).length = M := ⟨_, rfl⟩
 obtain ⟨T1, hT1⟩ : ∃ T, drT S p lost m = T := ⟨_, rfl⟩
 obtain ⟨T2, hT2⟩ : ∃ T, drT S p lost (m + 1) = T := ⟨_, rfl⟩
 rw [hT1] at k1 g1
 rw [hT2] at k2 g2
 rw [hA, hN] at g1
 rw [hB, hM] at g2
 rw [hA] at l1 hsm
 rw [hB, hA] at l2
 rw [hN] at s1 s2 hsm
 rw [hM] at s2
 have w1 := Go.Pm.wS (k := m) (by omega)
 have c1 : ¬ (N : Int) < 1 := by omega
 have c2 : ¬ (M : Int) < N := by omega
 have hsp : SpecOk Tryd.prog (spSv X S p Y lost).gdt := Spec.gdt_ok (Spec.one_ok (oneP_ok oWorks_c) (Spec.one_ok rSmT_ok (Spec.one_ok rLikeT_ok (Spec.one_ok wkRestT_ok (Spec.one_ok (rfDrown_ok hpR hok hl ll.1) (Spec.one_ok (oneP_ok hW) (Spec.one_ok (rfPick_ok hl ll.1) (Spec.one_ok rfMod_ok noSpec_ok))))))))
 refine pcalls_by Tryd.mixes hsp (fn := Tryd.f6) Tryd.func6 rfl (by kernel_rfl) (by show 2 ≤ _; decide) ?_
 by_cases h1 : (N : Int) > 1
 ·simp +decide -implicitDefEqProofs (maxSteps := 4000000) only [go_sem, Tryd.f6, spSv, hm', w1, k1, k2, g1, g2, c1, c2, l1, l2, h1]
 ·have hs := hsm (by omega)
  simp +decide -implicitDefEqProofs (maxSteps := 4000000) only [go_sem, Tryd.f6, spSv, hm', w1, k1, k2, g1, g2, c1, c2, l1, l2, h1, hs]
end Go.Proofs.YtdkboibnokipaaaDoor
