/- What the claim leans on, text 7. -/
import Derived.Test.YtdkboibnokipaaaDoorTie
import Derived.Test.YtdkboibnokipaaaDoorCards
import Derived.LaidMore
import Derived.SevenTiedAt
import Derived.OpenShut
import Derived.Lay
import Derived.Test.YtdkboibnokipaaaDoorC6
set_option linter.unusedSimpArgs false
set_option linter.unusedVariables false
set_option maxRecDepth 100000
set_option maxHeartbeats 16000000

namespace Go.Ow
open Go Go.RowKit Go.Pm
abbrev Pg := List (List ByteArray)
def inP (p : Pg) (a : Pl) : Prop := a.1 < p.length ∧ a.2.1 < (rowA p a.1).length ∧ a.2.2 < (entA (rowA p a.1) a.2.1).size
def byA (p : Pg) (a : Pl) : UInt8 := (entA (rowA p a.1) a.2.1).data.toList.getD a.2.2 0
def shp (p : Pg) : List (List Nat) := p.map fun r => r.map ByteArray.size
theorem mem_places_iff {p : Pg} {a : Pl} : a ∈ placesP p ↔ inP p a ∧ byA p a = 63 := by
 unfold placesP inP byA
 rw [mem_upP]
 exact ⟨fun ⟨h1, h2, h3, h4⟩ => ⟨⟨h1, h2, h3⟩, h4⟩, fun ⟨⟨h1, h2, h3⟩, h4⟩ => ⟨h1, h2, h3, h4⟩⟩
theorem shp_row (p : Pg) (i : Nat) : (shp p).getD i [] = (rowA p i).map ByteArray.size := by
 unfold shp rowA
 rw [List.getD_eq_getElem?_getD, List.getD_eq_getElem?_getD, List.getElem?_map]
 cases p[i]? <;> rfl
theorem size_ent (r : List ByteArray) (k : Nat) : (r.map ByteArray.size).getD k 0 = (entA r k).size := by
 unfold entA
 rw [List.getD_eq_getElem?_getD, List.getD_eq_getElem?_getD, List.getElem?_map]
 cases r[k]? <;> rfl
theorem shp_len {p q : Pg} (h : shp p = shp q) : p.length = q.length := by
 have := congrArg List.length h
 unfold shp at this
 simpa using this
theorem shp_rowl {p q : Pg} (h : shp p = shp q) (i : Nat) : (rowA p i).length = (rowA q i).length := by
 have h1 := shp_row p i
 rw [h, shp_row q i] at h1
 have := congrArg List.length h1
 simpa using this.symm
theorem shp_size {p q : Pg} (h : shp p = shp q) (i k : Nat) : (entA (rowA p i) k).size = (entA (rowA q i) k).size := by
 rw [← size_ent, ← size_ent, ← shp_row, ← shp_row, h]
theorem shp_in {p q : Pg} (h : shp p = shp q) (a : Pl) : inP p a ↔ inP q a := by
 unfold inP
 rw [shp_len h, shp_rowl h, shp_size h]
theorem shp_wide {p q : Pg} (h : shp p = shp q) : wideP p = wideP q := shp_rowl h 0
theorem shp_first {p q : Pg} (h : shp p = shp q) (a : Pl) : firstB p a = firstB q a := by
 unfold firstB
 rw [shp_size h]
theorem ba_ext2 {a b : ByteArray} (h : a.size = b.size) (hx : ∀ x, x < a.size → a.data.toList.getD x 0 = b.data.toList.getD x 0) : a = b := by
 have e : a.data.toList = b.data.toList := by
  apply List.ext_getElem?
  intro x
  by_cases hl : x < a.size
  ·have := hx x hl
   rw [List.getD_eq_getElem?_getD, List.getD_eq_getElem?_getD, List.getElem?_eq_getElem (by rw [bytes_len]; exact hl), List.getElem?_eq_getElem (by rw [bytes_len]; omega)] at this
   rw [List.getElem?_eq_getElem (by rw [bytes_len]; exact hl), List.getElem?_eq_getElem (by rw [bytes_len]; omega)]
   simpa using this
  ·rw [List.getElem?_eq_none (by rw [bytes_len]; omega), List.getElem?_eq_none (by rw [bytes_len]; omega)]
 cases a; cases b
 congr 1
 exact Array.ext' e
theorem page_ext {p q : Pg} (h : shp p = shp q) (hb : ∀ a, inP p a → byA p a = byA q a) : p = q := by
 apply List.ext_getElem?
 intro i
 by_cases hi : i < p.length
 ·have hi2 : i < q.length := by rw [← shp_len h]; exact hi
  rw [List.getElem?_eq_getElem hi, List.getElem?_eq_getElem hi2]
  congr 1
  have e1 : rowA p i = p[i] := by unfold rowA; rw [List.getD_eq_getElem?_getD, List.getElem?_eq_getElem hi]; rfl
  have e2 : rowA q i = q[i] := by unfold rowA; rw [List.getD_eq_getElem?_getD, List.getElem?_eq_getElem hi2]; rfl
  rw [← e1, ← e2]
  have hl := shp_rowl h i
  apply List.ext_getElem?
  intro k
  by_cases hk : k < (rowA p i).length
  ·have hk2 : k < (rowA q i).length := by rw [← hl]; exact hk
   rw [List.getElem?_eq_getElem hk, List.getElem?_eq_getElem hk2]
   congr 1
   have f1 : entA (rowA p i) k = (rowA p i)[k] := by unfold entA; rw [List.getD_eq_getElem?_getD, List.getElem?_eq_getElem hk]; rfl
   have f2 : entA (rowA q i) k = (rowA q i)[k] := by unfold entA; rw [List.getD_eq_getElem?_getD, List.getElem?_eq_getElem hk2]; rfl
   rw [← f1, ← f2]
   exact ba_ext2 (shp_size h i k) fun x hx => hb (i, k, x) ⟨hi, hk, hx⟩
  ·rw [List.getElem?_eq_none (by omega), List.getElem?_eq_none (by omega)]
 ·rw [List.getElem?_eq_none (by omega), List.getElem?_eq_none (by rw [← shp_len h]; omega)]
theorem rowA_fix (S : Dg) (p : Pg) (i : Nat) : rowA (fixP S p) i = fixR S i (rowA p i) := by
 unfold rowA fixP
 rw [List.getD_eq_getElem?_getD, List.getElem?_map]
 by_cases h : i < p.length
 ·rw [List.getElem?_range h]; rfl
 ·rw [List.getElem?_eq_none (by rw [List.length_range]; omega), List.getD_eq_getElem?_getD, List.getElem?_eq_none (by omega)]; rfl
theorem entA_fix (S : Dg) (i : Nat) (r : List ByteArray) (k : Nat) : entA (fixR S i r) k = fixS S i k (entA r k) := by
 unfold entA fixR
 rw [List.getD_eq_getElem?_getD, List.getElem?_map]
 by_cases h : k < r.length
 ·rw [List.getElem?_range h]; rfl
 ·rw [List.getElem?_eq_none (by rw [List.length_range]; omega), List.getD_eq_getElem?_getD, List.getElem?_eq_none (by omega)]; rfl
theorem size_fix (S : Dg) (i k : Nat) (s : ByteArray) : (fixS S i k s).size = s.size := by
 unfold fixS
 show (fixL S i k s).toArray.size = _
 unfold fixL
 simp
theorem fix_shp (S : Dg) (p : Pg) : shp (fixP S p) = shp p := by
 have key : ∀ (l : List Nat) (m : List Nat), l.length = m.length → (∀ i, l.getD i 0 = m.getD i 0) → l = m := fun l m h1 h2 => by
  apply List.ext_getElem h1
  intro i a b
  have := h2 i
  rw [List.getD_eq_getElem?_getD, List.getD_eq_getElem?_getD, List.getElem?_eq_getElem a, List.getElem?_eq_getElem b] at this
  exact this
 have key2 : ∀ (l : List (List Nat)) (m : List (List Nat)), l.length = m.length → (∀ i, l.getD i [] = m.getD i []) → l = m := fun l m h1 h2 => by
  apply List.ext_getElem h1
  intro i a b
  have := h2 i
  rw [List.getD_eq_getElem?_getD, List.getD_eq_getElem?_getD, List.getElem?_eq_getElem a, List.getElem?_eq_getElem b] at this
  exact this
 refine key2 _ _ (by unfold shp; rw [List.length_map, List.length_map, fixP_len]) fun i => ?_
 rw [shp_row, shp_row, rowA_fix]
 refine key _ _ (by rw [List.length_map, List.length_map, fixR_len]) fun k => ?_
 rw [size_ent, size_ent, entA_fix, size_fix]
theorem fix_by (S : Dg) (p : Pg) {a : Pl} (h : inP p a) : byA (fixP S p) a = fixB S a (byA p a) := by
 unfold byA
 rw [rowA_fix, entA_fix]
 show (fixL S a.1 a.2.1 (entA (rowA p a.1) a.2.1)).getD a.2.2 0 = _
 unfold fixL
 rw [List.getD_eq_getElem?_getD, List.getElem?_map, List.getElem?_range h.2.2]
 rfl
def oneD (a : Pl) (d : Int) : Dg := updD (fun _ => none) a d
def setP (p : Pg) (a : Pl) (d : Int) : Pg := fixP (oneD a d) p
theorem set_shp (p : Pg) (a : Pl) (d : Int) : shp (setP p a d) = shp p := fix_shp _ _
theorem set_by (p : Pg) (a : Pl) (d : Int) {b : Pl} (h : inP p b) : byA (setP p a d) b = if b = a then UInt8.ofNat (48 + d.toNat) else byA p b := by
 unfold setP
 rw [fix_by _ _ h]
 unfold fixB oneD updD
 by_cases e : b = a
 ·rw [if_pos e, if_pos e]
 ·rw [if_neg e, if_neg e]
theorem pw_ext {l m : List Pl} (hl : l.Pairwise plLt) (hm : m.Pairwise plLt) (h : ∀ a, a ∈ l ↔ a ∈ m) : l = m := by
 have irr : ∀ a : Pl, ¬ plLt a a := fun a h => plLt_ne h rfl
 have asym : ∀ a b : Pl, plLt a b → ¬ plLt b a := fun a b h1 h2 => by unfold plLt at h1 h2; omega
 induction l generalizing m with
 | nil => cases m with
  | nil => rfl
  | cons b m => have := (h b).2 List.mem_cons_self; cases this
 | cons a l ih => cases m with
  | nil => have := (h a).1 List.mem_cons_self; cases this
  | cons b m =>
   have hl' := List.pairwise_cons.1 hl
   have hm' := List.pairwise_cons.1 hm
   have e : a = b := by
    rcases List.mem_cons.1 ((h a).1 List.mem_cons_self) with e | ha
    ·exact e
    ·rcases List.mem_cons.1 ((h b).2 List.mem_cons_self) with e | hb
     ·exact e.symm
     ·exact absurd (hm'.1 a ha) (asym _ _ (hl'.1 b hb))
   subst e
   congr 1
   refine ih hl'.2 hm'.2 fun x => ⟨fun hx => ?_, fun hx => ?_⟩
   ·rcases List.mem_cons.1 ((h x).1 (List.mem_cons_of_mem _ hx)) with e | h2
    ·subst e; exact absurd (hl'.1 x hx) (irr x)
    ·exact h2
   ·rcases List.mem_cons.1 ((h x).2 (List.mem_cons_of_mem _ hx)) with e | h2
    ·subst e; exact absurd (hm'.1 x hx) (irr x)
    ·exact h2
theorem byte_ne {d : Int} (h0 : 0 ≤ d) (h9 : d ≤ 9) : UInt8.ofNat (48 + d.toNat) ≠ 63 := by
 intro e
 have := congrArg UInt8.toNat e
 simp at this
 omega
theorem byte_nat {d : Int} (h0 : 0 ≤ d) (h9 : d ≤ 15) : ((UInt8.ofNat (48 + d.toNat)).toNat : Int) = 48 + d := by
 have : (UInt8.ofNat (48 + d.toNat)).toNat = (48 + d.toNat) % 256 := by simp
 rw [this]; omega
theorem places_set {p : Pg} {a : Pl} {d : Int} (h0 : 0 ≤ d) (h9 : d ≤ 9) : placesP (setP p a d) = (placesP p).filter fun b => !(b == a) := by
 refine pw_ext (places_pw _) ((places_pw p).filter _) fun b => ?_
 rw [mem_places_iff, List.mem_filter, mem_places_iff, shp_in (set_shp p a d)]
 constructor
 ·rintro ⟨h1, h2⟩
  rw [set_by p a d h1] at h2
  split at h2
  ·exact absurd h2 (byte_ne h0 h9)
  ·rename_i e; exact ⟨⟨h1, h2⟩, by simpa using e⟩
 ·rintro ⟨⟨h1, h2⟩, e⟩
  have e : ¬ b = a := by simpa using e
  rw [set_by p a d h1, if_neg e]
  exact ⟨h1, h2⟩
def preB (p : Pg) : Bool := inW p.length 2 5 && p.all (rowOk (wideP p))
theorem valid_pre (p : Pg) : validB p = (preB p && decide (lostP p ≤ 5)) := by unfold validB preB; rw [Bool.and_assoc]
def shpOk (p : Pg) : Prop := (2 ≤ p.length ∧ p.length ≤ 5) ∧ (∀ i, i < p.length → (2 ≤ (rowA p i).length ∧ (rowA p i).length ≤ 5) ∧ (rowA p i).length = wideP p) ∧ ∀ i k, i < p.length → k < (rowA p i).length → 1 ≤ (entA (rowA p i) k).size ∧ (entA (rowA p i) k).size ≤ 5
theorem shpOk_iff {p q : Pg} (h : shp p = shp q) : shpOk p ↔ shpOk q := by
 unfold shpOk
 simp only [shp_len h, shp_rowl h, shp_size h, shp_wide h]
theorem pre_iff {p : Pg} : preB p = true ↔ shpOk p ∧ ∀ a, inP p a → entC (byA p a).toNat = true ∧ (firstB p a = true → byA p a ≠ 48) := by
 unfold preB shpOk
 rw [Bool.and_eq_true, inW_if, List.all_eq_true]
 have hrow : ∀ i (h : i < p.length), rowA p i = p[i] := fun i h => by unfold rowA; rw [List.getD_eq_getElem?_getD, List.getElem?_eq_getElem h]; rfl
 have hent : ∀ (r : List ByteArray) k (h : k < r.length), entA r k = r[k] := fun r k h => by unfold entA; rw [List.getD_eq_getElem?_getD, List.getElem?_eq_getElem h]; rfl
 have hsz : ∀ s : ByteArray, entB s = true ↔ (1 ≤ s.size ∧ s.size ≤ 5) ∧ ∀ x, x < s.size → entC (s.data.toList.getD x 0).toNat = true ∧ (x = 0 → 1 < s.size → s.data.toList.getD x 0 ≠ 48) := fun s => by
  constructor
  ·intro h
   refine ⟨entB_size h, fun x hx => ⟨entB_C h hx, fun h0 h1 => ?_⟩⟩
   subst h0
   unfold entB at h
   simp only [Bool.and_eq_true, Bool.not_eq_true', Bool.and_eq_false_imp, decide_eq_true_eq] at h
   have := h.2.1 (by omega)
   intro e
   rw [e] at this
   cases this
  ·rintro ⟨h1, h2⟩
   unfold entB
   simp only [Bool.and_eq_true, Bool.not_eq_true', Bool.and_eq_false_imp, decide_eq_true_eq, inW_if, List.all_eq_true]
   refine ⟨by omega, fun h => ?_, fun b hb => ?_⟩
   ·have := (h2 0 (by omega)).2 rfl (by omega)
    cases hc : (((s.data.toList.getD 0 0).toNat : Int) == 48) with
    | false => rfl
    | true =>
     rw [beq_iff_eq] at hc
     have hc2 : (s.data.toList.getD 0 0).toNat = 48 := by omega
     exact absurd (UInt8.toNat_inj.1 (by rw [hc2]; rfl)) this
   ·obtain ⟨x, hx, rfl⟩ := List.getElem_of_mem hb
    rw [bytes_len] at hx
    have := (h2 x hx).1
    rw [List.getD_eq_getElem?_getD, List.getElem?_eq_getElem] at this
    exact this
 constructor
 ·rintro ⟨h1, h2⟩
  have h2' : ∀ i (h : i < p.length), _ := fun i h => h2 p[i] (List.getElem_mem h)
  unfold rowOk at h2'
  simp only [Bool.and_eq_true, inW_if, beq_iff_eq, List.all_eq_true] at h2'
  refine ⟨⟨by omega, fun i hi => ?_, fun i k hi hk => ?_⟩, fun a ha => ?_⟩
  ·have := h2' i hi
   rw [hrow i hi]
   exact ⟨by omega, this.2.1⟩
  ·have := (h2' i hi).2.2
   rw [hrow i hi] at hk ⊢
   rw [hent _ k hk]
   exact ((hsz _).1 (this _ (List.getElem_mem hk))).1
  ·obtain ⟨i, k, x⟩ := a
   obtain ⟨hi, hk, hx⟩ := ha
   simp only at hi hk hx
   have := (h2' i hi).2.2
   unfold byA firstB
   simp only
   rw [hrow i hi] at hk hx ⊢
   rw [hent _ k hk] at hx ⊢
   have := ((hsz _).1 (this _ (List.getElem_mem hk))).2 x hx
   refine ⟨this.1, fun hf => ?_⟩
   simp only [Bool.and_eq_true, beq_iff_eq, decide_eq_true_eq] at hf
   exact this.2 hf.1 hf.2
 ·rintro ⟨⟨h1, h2, h3⟩, h4⟩
  refine ⟨by omega, fun r hr => ?_⟩
  obtain ⟨i, hi, rfl⟩ := List.getElem_of_mem hr
  have q1 := h2 i hi
  have q2 := h3 i
  have q3 := fun k x => h4 (i, k, x)
  unfold inP byA firstB at q3
  simp only at q3
  rw [hrow i hi] at q1
  unfold rowOk
  simp only [Bool.and_eq_true, inW_if, beq_iff_eq, List.all_eq_true]
  refine ⟨by omega, q1.2, fun s hs => ?_⟩
  obtain ⟨k, hk, rfl⟩ := List.getElem_of_mem hs
  have q2 := q2 k hi (by rw [hrow i hi]; exact hk)
  rw [hrow i hi, hent _ k hk] at q2
  rw [hsz]
  refine ⟨q2, fun x hx => ?_⟩
  have := q3 k x ⟨hi, by rw [hrow i hi]; exact hk, by rw [hrow i hi, hent _ k hk]; exact hx⟩
  rw [hrow i hi, hent _ k hk] at this
  refine ⟨this.1, fun h0 h1' => this.2 ?_⟩
  rw [h0]
  simpa using h1'
theorem valid_iff {p : Pg} : validB p = true ↔ shpOk p ∧ (∀ a, inP p a → entC (byA p a).toNat = true ∧ (firstB p a = true → byA p a ≠ 48)) ∧ (placesP p).length ≤ 5 := by
 rw [valid_pre, Bool.and_eq_true, pre_iff, decide_eq_true_eq, places_len, and_assoc]
theorem entC_dig {d : Int} (h0 : 0 ≤ d) (h9 : d ≤ 9) : entC ((UInt8.ofNat (48 + d.toNat)).toNat : Int) = true := by
 rw [byte_nat h0 (by omega)]
 unfold entC inW
 simp only [Bool.or_eq_true, Bool.and_eq_true, decide_eq_true_eq]
 right; omega
theorem set_valid {p : Pg} (hv : validB p = true) {a : Pl} (ha : inP p a) {d : Int} (h0 : 0 ≤ d) (h9 : d ≤ 9) : validB (setP p a d) = true ↔ ¬ (firstB p a = true ∧ d = 0) := by
 have hv' := valid_iff.1 hv
 rw [valid_iff, shpOk_iff (set_shp p a d)]
 constructor
 ·rintro ⟨_, h, _⟩ ⟨hf, hd⟩
  have := (h a ((shp_in (set_shp p a d) a).2 ha)).2 (by rw [shp_first (set_shp p a d)]; exact hf)
  rw [set_by p a d ha, if_pos rfl, hd] at this
  exact this rfl
 ·intro hn
  refine ⟨hv'.1, fun b hb => ?_, ?_⟩
  ·rw [shp_in (set_shp p a d)] at hb
   rw [shp_first (set_shp p a d), set_by p a d hb]
   by_cases e : b = a
   ·rw [if_pos e]
    refine ⟨entC_dig h0 h9, fun hf h48 => hn ⟨e ▸ hf, ?_⟩⟩
    have := byte_nat h0 (show d ≤ 15 by omega)
    rw [h48] at this
    have e48 : (((48 : UInt8).toNat : Nat) : Int) = 48 := rfl
    omega
   ·rw [if_neg e]; exact hv'.2.1 b hb
  ·rw [places_set h0 h9]
   exact Nat.le_trans (List.length_filter_le _ _) hv'.2.2
theorem digB_fix {S : Dg} (hS : DOk S) {a : Pl} {b : UInt8} (h1 : b = 63 → ∃ d, S a = some d) (h2 : b ≠ 63 → S a = none) : digB (fun _ => none) a (fixB S a b) = digB S a b := by
 unfold digB fixB
 by_cases e : b = 63
 ·obtain ⟨d, hd⟩ := h1 e
  have hd9 := hS a d hd
  rw [hd, if_pos e]
  simp only
  rw [if_neg (byte_ne hd9.1 hd9.2), byte_nat hd9.1 (by omega), Option.getD_some]
  omega
 ·rw [h2 e]
theorem val_fix {S : Dg} (hS : DOk S) {p : Pg} (h1 : ∀ a, inP p a → byA p a = 63 → ∃ d, S a = some d) (h2 : ∀ a, inP p a → byA p a ≠ 63 → S a = none) {i k : Nat} (hi : i < p.length) (hk : k < (rowA p i).length) : valN (fun _ => none) (fixP S p) i k = valN S p i k := by
 unfold valN
 rw [rowA_fix, entA_fix, size_fix]
 have key : ∀ n, n ≤ (entA (rowA p i) k).size → entN (fun _ => none) i k (fixS S i k (entA (rowA p i) k)) n = entN S i k (entA (rowA p i) k) n := by
  intro n
  induction n with
  | zero => intro _; rfl
  | succ n ih =>
   intro hn
   unfold entN
   rw [ih (by omega)]
   congr 1
   have hin : inP p (i, k, n) := ⟨hi, hk, hn⟩
   have e := fix_by S p hin
   unfold byA at e
   simp only at e
   rw [rowA_fix, entA_fix] at e
   rw [e]
   exact digB_fix hS (h1 _ hin) (h2 _ hin)
 exact key _ (Nat.le_refl _)
theorem wide_row {p : Pg} (h : shpOk p) {i : Nat} (hi : i < p.length) : (rowA p i).length = wideP p := (h.2.1 i hi).2
theorem ag_fix {S : Dg} (hS : DOk S) {p : Pg} (hok : shpOk p) (h1 : ∀ a, inP p a → byA p a = 63 → ∃ d, S a = some d) (h2 : ∀ a, inP p a → byA p a ≠ 63 → S a = none) : agE (fixP S p) (fun _ => none) = agE p S := by
 have hv : ∀ i k, i < p.length → k < wideP p → valN (fun _ => none) (fixP S p) i k = valN S p i k := fun i k hi hk => val_fix hS h1 h2 hi (by rw [wide_row hok hi]; exact hk)
 have hw := shp_wide (fix_shp S p)
 have hl := fixP_len S p
 have hl2 := hok.1.1
 have hw2 : 2 ≤ wideP p := by
  have h := hok.2.1 0 (by omega)
  rw [← h.2]; exact h.1.1
 unfold agE colsB
 rw [hl, hw]
 congr 1
 ·rw [Bool.eq_iff_iff, List.all_eq_true, List.all_eq_true]
  have : ∀ i, i < p.length → rowB (fun _ => none) (fixP S p) i = rowB S p i := fun i hi => by
   unfold rowB
   rw [hw, hv i _ hi (by omega), sumN_congr _ fun x hx => hv i x hi (by omega)]
  exact ⟨fun h i hi => by rw [← this i (List.mem_range.1 hi)]; exact h i hi, fun h i hi => by rw [this i (List.mem_range.1 hi)]; exact h i hi⟩
 ·rw [Bool.eq_iff_iff, List.all_eq_true, List.all_eq_true]
  have : ∀ k, k < wideP p → colB (fun _ => none) (fixP S p) k = colB S p k := fun k hk => by
   unfold colB
   rw [hl, hv _ k (by omega) hk, sumN_congr _ fun x hx => hv x k (by omega) hk]
  exact ⟨fun h i hi => by rw [← this i (List.mem_range.1 hi)]; exact h i hi, fun h i hi => by rw [this i (List.mem_range.1 hi)]; exact h i hi⟩
theorem asg_ok {p : Pg} {L : List Pl} {g : List Int} (h : g ∈ cands p L) : DOk (asgD L g) := by
 intro a d hd
 have hg := mem_cands.1 h
 by_cases ha : a ∈ L
 ·obtain ⟨x, hx, hm⟩ := asgD_in hg.1 ha
  rw [hx] at hd
  cases hd
  obtain ⟨j, hj, e⟩ := List.getElem_of_mem hm
  exact (hg.2 j L[j] d (List.getElem?_eq_getElem _) (by rw [List.getElem?_eq_getElem hj, e])).1
 ·rw [asgD_out ha] at hd; cases hd
def pagesR (p : Pg) : List Pg := (readG p).map fun g => fixP (asgD (placesP p) g) p
def digU (b : UInt8) : Prop := 48 ≤ b.toNat ∧ b.toNat ≤ 57
def likeP (p q : Pg) : Prop := shp q = shp p ∧ ∀ a, inP p a → byA p a ≠ 63 → byA q a = byA p a
def goodP (p q : Pg) : Prop := likeP p q ∧ (∀ a, inP p a → digU (byA q a)) ∧ (∀ a, inP p a → firstB p a = true → byA q a ≠ 48) ∧ agE q (fun _ => none) = true
theorem asg_at {p : Pg} {g : List Int} (h : g ∈ cands p (placesP p)) {a : Pl} (ha : inP p a) : (byA p a = 63 → ∃ d, asgD (placesP p) g a = some d) ∧ (byA p a ≠ 63 → asgD (placesP p) g a = none) := by
 refine ⟨fun e => ?_, fun e => asgD_out fun hm => e (mem_places_iff.1 hm).2⟩
 obtain ⟨d, hd, _⟩ := asgD_in (mem_cands.1 h).1 (mem_places_iff.2 ⟨ha, e⟩)
 exact ⟨d, hd⟩
theorem asg_get {L : List Pl} {g : List Int} (hn : L.Nodup) (hl : g.length = L.length) {j : Nat} {a : Pl} (ha : L[j]? = some a) : asgD L g a = some (g.getD j 0) := by
 have hm := List.mem_of_getElem? ha
 obtain ⟨d, hd, _⟩ := asgD_in hl hm
 have e := digs_asg hn hl
 have : (digsL L (asgD L g)).getD j 0 = d := by
  unfold digsL
  rw [List.getD_eq_getElem?_getD, List.getElem?_map, ha]
  show ((asgD L g) a).getD 0 = d
  rw [hd]; rfl
 rw [e] at this
 rw [hd, this]
theorem mem_pages {p q : Pg} (hv : validB p = true) : q ∈ pagesR p ↔ goodP p q := by
 have hv' := valid_iff.1 hv
 have hn := places_nodup p
 unfold pagesR
 rw [List.mem_map, readG_eq]
 constructor
 ·rintro ⟨g, hg, rfl⟩
  obtain ⟨hg, hag⟩ := List.mem_filter.1 hg
  have hok := asg_ok hg
  have hc := mem_cands.1 hg
  have hby : ∀ a, inP p a → byA p a = 63 → ∃ d, asgD (placesP p) g a = some d ∧ byA (fixP (asgD (placesP p) g) p) a = UInt8.ofNat (48 + d.toNat) := fun a ha e => by
   obtain ⟨d, hd⟩ := (asg_at hg ha).1 e
   refine ⟨d, hd, ?_⟩
   rw [fix_by _ _ ha]
   unfold fixB
   rw [hd]
  have hby2 : ∀ a, inP p a → byA p a ≠ 63 → byA (fixP (asgD (placesP p) g) p) a = byA p a := fun a ha e => by
   rw [fix_by _ _ ha]
   unfold fixB
   rw [(asg_at hg ha).2 e]
  refine ⟨⟨fix_shp _ _, hby2⟩, fun a ha => ?_, fun a ha hf => ?_, ?_⟩
  ·by_cases e : byA p a = 63
   ·obtain ⟨d, hd, hb⟩ := hby a ha e
    rw [hb]
    have := hok a d hd
    have := byte_nat this.1 (show d ≤ 15 by omega)
    unfold digU; omega
   ·rw [hby2 a ha e]
    have := (hv'.2.1 a ha).1
    unfold entC inW at this
    simp only [Bool.or_eq_true, beq_iff_eq, Bool.and_eq_true, decide_eq_true_eq] at this
    have h63 : ¬ ((byA p a).toNat : Int) = 63 := fun h => e (UInt8.toNat_inj.1 (by
     have : (byA p a).toNat = 63 := by omega
     rw [this]; rfl))
    unfold digU; omega
  ·by_cases e : byA p a = 63
   ·obtain ⟨d, hd, hb⟩ := hby a ha e
    rw [hb]
    have hm := mem_places_iff.2 ⟨ha, e⟩
    obtain ⟨j, hj, ej⟩ := List.getElem_of_mem hm
    have hja : (placesP p)[j]? = some a := by rw [List.getElem?_eq_getElem hj, ej]
    have h2 := asg_get hn hc.1 hja
    rw [h2] at hd
    cases hd
    have hgj : g[j]? = some (g.getD j 0) := by
     rw [List.getD_eq_getElem?_getD, List.getElem?_eq_getElem (by rw [hc.1]; exact hj)]; rfl
    have h3 := hc.2 j a _ hja hgj
    intro h48
    have := byte_nat h3.1.1 (show g.getD j 0 ≤ 15 by omega)
    rw [h48] at this
    have e48 : (((48 : UInt8).toNat : Nat) : Int) = 48 := rfl
    exact h3.2 hf (by omega)
   ·rw [hby2 a ha e]; exact (hv'.2.1 a ha).2 hf
  ·rw [ag_fix hok hv'.1 (fun a ha e => (asg_at hg ha).1 e) fun a ha e => (asg_at hg ha).2 e]
   exact hag
 ·rintro ⟨⟨h1, h2⟩, h3, h4, h5⟩
  obtain ⟨g, hgd⟩ : ∃ g, (placesP p).map (fun a => ((byA q a).toNat : Int) - 48) = g := ⟨_, rfl⟩
  have hgl : g.length = (placesP p).length := by rw [← hgd, List.length_map]
  have hgj : ∀ (j : Nat) (a : Pl), (placesP p)[j]? = some a → g[j]? = some (((byA q a).toNat : Int) - 48) := fun j a ha => by
   rw [← hgd, List.getElem?_map, ha]; rfl
  have hg : g ∈ cands p (placesP p) := by
   refine mem_cands.2 ⟨hgl, fun j a d ha hd => ?_⟩
   rw [hgj j a ha] at hd
   cases hd
   have hm := mem_places_iff.1 (List.mem_of_getElem? ha)
   have := h3 a hm.1
   unfold digU at this
   refine ⟨by omega, fun hf e => h4 a hm.1 hf ?_⟩
   have e2 : (byA q a).toNat = 48 := by omega
   exact UInt8.toNat_inj.1 (by rw [e2]; rfl)
  have heq : fixP (asgD (placesP p) g) p = q := by
   refine page_ext ((fix_shp _ _).trans h1.symm) fun a ha => ?_
   rw [shp_in (fix_shp _ _)] at ha
   rw [fix_by _ _ ha]
   unfold fixB
   by_cases e : byA p a = 63
   ·have hm := mem_places_iff.2 ⟨ha, e⟩
    obtain ⟨j, hj, ej⟩ := List.getElem_of_mem hm
    have hja : (placesP p)[j]? = some a := by rw [List.getElem?_eq_getElem hj, ej]
    rw [asg_get hn hgl hja]
    have : g.getD j 0 = ((byA q a).toNat : Int) - 48 := by rw [List.getD_eq_getElem?_getD, hgj j a hja]; rfl
    rw [this]
    have hd := h3 a ha
    unfold digU at hd
    show UInt8.ofNat (48 + (((byA q a).toNat : Int) - 48).toNat) = byA q a
    rw [show 48 + (((byA q a).toNat : Int) - 48).toNat = (byA q a).toNat by omega]
    simp
   ·rw [(asg_at hg ha).2 e]
    exact (h2 a ha e).symm
  refine ⟨g, List.mem_filter.2 ⟨hg, ?_⟩, heq⟩
  rw [← ag_fix (asg_ok hg) hv'.1 (fun a ha e => (asg_at hg ha).1 e) (fun a ha e => (asg_at hg ha).2 e), heq]
  exact h5
theorem pages_nodup (p : Pg) : (pagesR p).Nodup := by
 unfold pagesR
 refine nodup_map (fun g hg h hh e => ?_) (by rw [readG_eq]; exact (cands_nodup p _).filter _)
 rw [readG_eq] at hg hh
 have hg := (List.mem_filter.1 hg).1
 have hh := (List.mem_filter.1 hh).1
 have hgc := mem_cands.1 hg
 have hhc := mem_cands.1 hh
 have hn := places_nodup p
 apply List.ext_getElem (hgc.1.trans hhc.1.symm)
 intro j h1 h2
 have hj : j < (placesP p).length := by rw [← hgc.1]; exact h1
 have hja : (placesP p)[j]? = some (placesP p)[j] := List.getElem?_eq_getElem hj
 have hm := mem_places_iff.1 (List.mem_of_getElem? hja)
 have e1 := fix_by (asgD (placesP p) g) p hm.1
 have e2 := fix_by (asgD (placesP p) h) p hm.1
 rw [e] at e1
 rw [e1] at e2
 unfold fixB at e2
 rw [asg_get hn hgc.1 hja, asg_get hn hhc.1 hja] at e2
 have g1 : g.getD j 0 = g[j] := by rw [List.getD_eq_getElem?_getD, List.getElem?_eq_getElem h1]; rfl
 have g2 : h.getD j 0 = h[j] := by rw [List.getD_eq_getElem?_getD, List.getElem?_eq_getElem h2]; rfl
 rw [g1, g2] at e2
 have r1 := (hgc.2 j _ g[j] hja (List.getElem?_eq_getElem h1)).1
 have r2 := (hhc.2 j _ h[j] hja (List.getElem?_eq_getElem h2)).1
 have n1 := byte_nat r1.1 (show g[j] ≤ 15 by omega)
 have n2 := byte_nat r2.1 (show h[j] ≤ 15 by omega)
 simp only at e2
 rw [e2] at n1
 omega
theorem pages_len (p : Pg) : (pagesR p).length = (readG p).length := List.length_map _
end Go.Ow

namespace Go.Proofs.YtdkboibnokipaaaDoor
open Go Go.RowKit Go.Pm Go.Ow
theorem ba_ext {a b : ByteArray} (h : a.data.toList = b.data.toList) : a = b := by
 cases a; cases b
 congr 1
 exact Array.ext' h
end Go.Proofs.YtdkboibnokipaaaDoor

namespace Go.Ow
open Go Go.Pm
end Go.Ow

namespace Go.Proofs.YtdkboibnokipaaaDoor
open Go.RowKit Go.Pm Go.Ow
theorem rIn_c (n lo hi : Int) : PCalls Tryd.prog 42 [.int .i64 n, .int .i64 lo, .int .i64 hi] (.bool (inW n lo hi)) := by
 refine pcalls_by Tryd.mixes noSpec_ok (fn := Tryd.f42) Tryd.func42 rfl (by kernel_rfl) (by show 3 ≤ _; decide) ?_
 simp +decide (maxSteps := 4000000) only [go_sem, decide_true, Tryd.f42, inW, ge_iff_le]
noncomputable def rfIn : List TV → Option TV
 | [.int .i64 n, .int .i64 lo, .int .i64 hi] => some (.bool (inW n lo hi))
 | _ => none
theorem rfIn_ok : ∀ xs r, rfIn xs = some r → PCalls Tryd.prog 42 xs r := by
 intro xs r h
 unfold rfIn at h
 split at h
 ·cases h; exact rIn_c _ _ _
 ·cases h
attribute [go_sem] rfIn
noncomputable def spRa : Pm.Spec := noSpec.one 42 rfIn
@[go_sem] theorem spRa_p (f : FuncId) (xs : List TV) : spRa.p f xs = Pm.Spec.p (noSpec.one 42 rfIn) f xs := rfl
@[go_sem] theorem spRa_h (f : FuncId) (ps : List PV) (hl : List PO) : spRa.h f ps hl = Pm.Spec.h (noSpec.one 42 rfIn) f ps hl := rfl
@[go_sem] theorem spRa_y (Y : Pm.YS) (f : FuncId) (ps : List PV) (hl : List PO) : spRa.y Y f ps hl = Pm.Spec.y (noSpec.one 42 rfIn) Y f ps hl := rfl
@[go_sem] theorem spRa_pn (f : FuncId) (ps : List PV) (hl : List PO) : spRa.pn f ps hl = Pm.Spec.pn (noSpec.one 42 rfIn) f ps hl := rfl
@[go_sem] theorem spRa_fz (f : FuncId) : spRa.fz f = Pm.Spec.fz (noSpec.one 42 rfIn) f := rfl
@[go_sem] theorem spRa_fr (f : FuncId) : spRa.fr f = Pm.Spec.fr (noSpec.one 42 rfIn) f := rfl
@[go_sem] theorem spRa_yf (f : FuncId) : spRa.yf f = Pm.Spec.yf (noSpec.one 42 rfIn) f := rfl
@[go_sem] theorem spRa_gd : spRa.gd = Pm.Spec.gd (noSpec.one 42 rfIn) := rfl
@[go_sem] theorem spRa_mu (t : TypeId) : spRa.mu t = Pm.Spec.mu (noSpec.one 42 rfIn) t := rfl
@[go_sem] theorem spRa_nf (t : TypeId) : spRa.nf t = Pm.Spec.nf (noSpec.one 42 rfIn) t := rfl
theorem spRa_ok : SpecOk Tryd.prog spRa := Spec.one_ok rfIn_ok noSpec_ok

end Go.Proofs.YtdkboibnokipaaaDoor

namespace Go.Ow
open Go Go.RowKit Go.Pm
theorem fix_same {S : Dg} {i k : Nat} {s : ByteArray} (h : ∀ x, S (i, k, x) = none) : fixS S i k s = s := by
 refine ba_ext2 (size_fix _ _ _ _) fun x hx => ?_
 rw [size_fix] at hx
 show (fixL S i k s).getD x 0 = _
 unfold fixL
 rw [List.getD_eq_getElem?_getD, List.getElem?_map, List.getElem?_range hx]
 show fixB S (i, k, x) _ = _
 unfold fixB
 rw [h]
theorem fix_cut {a : Pl} {d : Int} {s : ByteArray} (hx : a.2.2 < s.size) : fixS (oneD a d) a.1 a.2.1 s = s.extract 0 a.2.2 ++ ⟨#[UInt8.ofNat (48 + d.toNat)]⟩ ++ s.extract (a.2.2 + 1) s.size := by
 have hl := bytes_len s
 apply Go.Proofs.YtdkboibnokipaaaDoor.ba_ext
 rw [ByteArray.data_append, ByteArray.data_append, Array.toList_append, Array.toList_append, Lib.extract_from_zero, Lib.extract_to_end]
 show fixL (oneD a d) a.1 a.2.1 s = s.data.toList.take a.2.2 ++ [UInt8.ofNat (48 + d.toNat)] ++ s.data.toList.drop (a.2.2 + 1)
 unfold fixL
 apply List.ext_getElem?
 intro y
 rw [List.getElem?_map, List.append_assoc]
 by_cases h1 : y < s.size
 ·rw [List.getElem?_range h1]
  show some (fixB (oneD a d) (a.1, a.2.1, y) (s.data.toList.getD y 0)) = _
  unfold fixB oneD updD
  have hg : s.data.toList[y]? = some (s.data.toList.getD y 0) := by
   rw [List.getD_eq_getElem?_getD, List.getElem?_eq_getElem (by omega)]; rfl
  by_cases e : y = a.2.2
  ·subst e
   rw [if_pos rfl, List.getElem?_append_right (by rw [List.length_take]; omega), List.length_take, show a.2.2 - min a.2.2 s.data.toList.length = 0 by omega]
   rfl
  ·rw [if_neg (fun h => e (by rw [← h]))]
   by_cases h2 : y < a.2.2
   ·rw [List.getElem?_append_left (by rw [List.length_take]; omega), List.getElem?_take, if_pos h2, hg]
   ·rw [List.getElem?_append_right (by rw [List.length_take]; omega), List.length_take, List.singleton_append, show y - min a.2.2 s.data.toList.length = (y - a.2.2 - 1) + 1 by omega, List.getElem?_cons_succ, List.getElem?_drop, show a.2.2 + 1 + (y - a.2.2 - 1) = y by omega, hg]
 ·rw [List.getElem?_eq_none (by rw [List.length_range]; omega)]
  symm
  rw [Option.map_none, List.getElem?_eq_none]
  simp only [List.length_append, List.length_take, List.length_drop, List.length_cons, List.length_nil]
  omega
def rowF (r : List ByteArray) : TV := .sl (r.map .str) r.length false
def pgF (p : Pg) : TV := .sl (p.map rowF) p.length false
theorem pgF_R (p : Pg) : pgR (pgF p) p := .inr ⟨_, false, rfl, List.length_map _, fun k r t hr ht => by
 rw [List.getElem?_map, hr] at ht
 cases ht
 exact .inr ⟨false, rfl⟩⟩
theorem page_rows2 {s : TV} {p : Pg} (hs : pgR s p) (hok : shpOk p) : ∃ rs f, s = .sl rs p.length f ∧ rs.length = p.length ∧ ∀ (k : Nat) (r : List ByteArray) (t : TV), p[k]? = some r → rs[k]? = some t → ∃ g, t = .sl (r.map .str) r.length g := by
 have hvl := hok.1
 rcases hs with ⟨_, rfl⟩ | ⟨rs, f, h1, h2, h3⟩
 ·simp at hvl
 ·refine ⟨rs, f, h1, h2, fun k r t hr ht => ?_⟩
  have hk := (List.getElem?_eq_some_iff.1 hr).1
  have := (hok.2.1 k hk).1
  have e : rowA p k = r := by unfold rowA; rw [List.getD_eq_getElem?_getD, hr]; rfl
  rw [e] at this
  rcases h3 k r t hr ht with ⟨_, rfl⟩ | ⟨g, e⟩
  ·simp at this
  ·exact ⟨g, e⟩
end Go.Ow
namespace Go.Proofs.YtdkboibnokipaaaDoor
open Go.RowKit Go.Pm Go.Ow
theorem rWithG_c {s : TV} {p : Pg} (hs : pgR s p) (hok : shpOk p) (ar ac ax v : Int) (S : Dg)
  (hS : ∀ i k (e : ByteArray), i < p.length → k < (rowA p i).length → entA (rowA p i) k = e → ((i : Int) = ar ∧ (k : Int) = ac ∧ ∃ x : Nat, ax = x ∧ x < e.size ∧ fixS S i k e = e.extract 0 x ++ strOfNums [v] ++ e.extract (x + 1) e.size) ∨ (¬ ((i : Int) = ar ∧ (k : Int) = ac) ∧ fixS S i k e = e)) :
  PCalls Tryd.prog 37 [s, .agg [.int .i64 ar, .int .i64 ac, .int .i64 ax], .int .u8 v] (pgF (fixP S p)) := by
 obtain ⟨rs, f, rfl, hrl, hrs⟩ := page_rows2 hs hok
 have hpl := hok.1
 refine pcalls_by Tryd.mixes (Spec.gdt_ok noSpec_ok) (fn := Tryd.f37) Tryd.func37 rfl (by kernel_rfl) (by show 3 ≤ _; decide) ?_
 simp +decide -implicitDefEqProofs (maxSteps := 4000000) only [go_sem, Tryd.f37]
 refine pwpC_loopU (A := { i : Nat // i ≤ p.length }) [0, 2, 4] (fun i => [(8, .t (.int .i64 i.1)), (7, .own (((fixP S p).take i.1).map rowF) i.1 1)]) (fun i => [(1, .tok i.1 41)]) (fun i => p.length - i.1) ⟨0, by omega⟩ (by decide) (fun _ => by rfl) ?_ fun Q1 hQ1 ⟨i, hi⟩ I1 hI1 => ?_
 ·simp +decide -implicitDefEqProofs (maxSteps := 4000000) only [go_sem, List.take_zero, List.map_nil]
 ·by_cases hlt : (i : Int) < p.length
  ·obtain ⟨r, hr⟩ : ∃ r, p[i]? = some r := ⟨_, List.getElem?_eq_getElem (by omega)⟩
   obtain ⟨t, ht⟩ : ∃ t, rs[i]? = some t := ⟨_, List.getElem?_eq_getElem (by omega)⟩
   obtain ⟨g1, rfl⟩ := hrs i r t hr ht
   have er : rowA p i = r := by unfold rowA; rw [List.getD_eq_getElem?_getD, hr]; rfl
   have hrow := hok.2.1 i (by omega)
   rw [er] at hrow
   have d1 := tv_at ht
   have hk1 : IntKind.i64.wrap ((i : Int) + 1) = ((i + 1 : Nat) : Int) := by rw [wrap_in (by omega) (by omega)]; omega
   simp +decide -implicitDefEqProofs (maxSteps := 4000000) only [go_sem, hlt]
   refine pwpC_loopU (A := { k : Nat // k ≤ r.length }) [0, 2, 4, 7, 8] (fun k => [(10, .t (.int .i64 k.1)), (9, .own (((fixR S i r).take k.1).map .str) k.1 2)]) (fun k => [(2, .tok k.1 9)]) (fun k => r.length - k.1) ⟨0, by omega⟩ (by decide) (fun _ => by rfl) ?_ fun Q2 hQ2 ⟨k, hk⟩ I2 hI2 => ?_
   ·simp +decide -implicitDefEqProofs (maxSteps := 4000000) only [go_sem, List.take_zero, List.map_nil]
   ·by_cases hlt2 : (k : Int) < r.length
    ·obtain ⟨x, hx⟩ : ∃ x, r[k]? = some x := ⟨_, List.getElem?_eq_getElem (by omega)⟩
     have dx := txs_at hx
     have ex : entA r k = x := by unfold entA; rw [List.getD_eq_getElem?_getD, hx]; rfl
     have hxs := hok.2.2 i k (by omega) (by rw [er]; omega)
     rw [er, ex] at hxs
     have hk2 : IntKind.i64.wrap ((k : Int) + 1) = ((k + 1 : Nat) : Int) := by rw [wrap_in (by omega) (by omega)]; omega
     have hfx := fixR_at S i r k (by omega)
     rw [ex] at hfx
     have hrw : (k + 1) * 16 ≤ 140737488355328 := by omega
     have hll2 : (((fixR S i r).take k).map TV.str).length = k := by rw [List.length_map, List.length_take, fixR_len]; omega
     rcases hS i k x (by omega) (by rw [er]; omega) (by rw [er, ex]) with ⟨e1, e2, y, e3, hy, hf⟩ | ⟨hne, hf⟩
     ·subst e1 e2 e3
      have c1 : ((i : Int) == (i : Int)) = true := by simp
      have hy1 : (y : Int) ≤ x.size := by omega
      have hy2 : IntKind.i64.wrap ((y : Int) + 1) = ((y + 1 : Nat) : Int) := by rw [wrap_in (by omega) (by omega)]; omega
      have hy3 : ((y + 1 : Nat) : Int) ≤ x.size := by omega
      have hz1 : (x.extract 0 y).size + (strOfNums [v]).size ≤ 4294967296 := by
       have : (strOfNums [v]).size = 1 := rfl
       rw [ByteArray.size_extract, this]; omega
      have hz2 : (x.extract 0 y).size + (strOfNums [v]).size + (x.extract (y + 1) x.size).size ≤ 4294967296 := by
       have : (strOfNums [v]).size = 1 := rfl
       rw [ByteArray.size_extract, ByteArray.size_extract, this]; omega
      simp +decide -implicitDefEqProofs (maxSteps := 4000000) only [go_sem, hlt, d1, hlt2, dx, hy1, hy2, hy3, hz1, hz2, hrw, hll2, Nat.mul_one]
      refine hI2 _ ⟨k + 1, by omega⟩ (by simp only; omega) ?_
      simp +decide -implicitDefEqProofs (maxSteps := 4000000) only [go_sem, hk2, hfx, hf, List.map_append, List.map_cons, List.map_nil]
     ·by_cases e1 : (i : Int) = ar
      ·have e2 : ((k : Int) == ac) = false := by
        rw [beq_eq_false_iff_ne]; exact fun h => hne ⟨e1, h⟩
       subst e1
       simp +decide -implicitDefEqProofs (maxSteps := 4000000) only [go_sem, hlt, d1, hlt2, dx, e2, hrw, hll2, Nat.mul_one]
       refine hI2 _ ⟨k + 1, by omega⟩ (by simp only; omega) ?_
       simp +decide -implicitDefEqProofs (maxSteps := 4000000) only [go_sem, hk2, hfx, hf, List.map_append, List.map_cons, List.map_nil]
      ·have e2 : ((i : Int) == ar) = false := by
        rw [beq_eq_false_iff_ne]; exact e1
       simp +decide -implicitDefEqProofs (maxSteps := 4000000) only [go_sem, hlt, d1, hlt2, dx, e2, hrw, hll2, Nat.mul_one]
       refine hI2 _ ⟨k + 1, by omega⟩ (by simp only; omega) ?_
       simp +decide -implicitDefEqProofs (maxSteps := 4000000) only [go_sem, hk2, hfx, hf, List.map_append, List.map_cons, List.map_nil]
    ·have hke : k = r.length := by omega
     subst hke
     have hfx := fixP_at S p i (by omega)
     rw [er] at hfx
     have htk : (fixR S i r).take r.length = fixR S i r := List.take_of_length_le (by rw [fixR_len]; exact Nat.le_refl _)
     have hr0 : ¬ r.length = 0 := by omega
     have hrv : rowF (fixR S i r) = .sl ((fixR S i r).map .str) r.length false := by unfold rowF; rw [fixR_len]
     have hrw : (i + 1) * 24 ≤ 140737488355328 := by omega
     have hll2 : (((fixP S p).take i).map rowF).length = i := by rw [List.length_map, List.length_take, fixP_len]; omega
     simp +decide -implicitDefEqProofs (maxSteps := 4000000) only [go_sem, hlt, d1, hlt2, Nat.mul_one]
     refine hQ2 _ _ ?_
     simp +decide -implicitDefEqProofs (maxSteps := 4000000) only [go_sem, htk, hr0, hrw, hll2, Nat.mul_one]
     refine hI1 _ ⟨i + 1, by omega⟩ (by simp only; omega) ?_
     simp +decide -implicitDefEqProofs (maxSteps := 4000000) only [go_sem, hk1, hfx, List.map_append, List.map_cons, List.map_nil, hrv]
  ·have hie : i = p.length := by omega
   subst hie
   have htk : (fixP S p).take p.length = fixP S p := List.take_of_length_le (by rw [fixP_len]; exact Nat.le_refl _)
   have hp0 : ¬ p.length = 0 := by omega
   have hpg : pgF (fixP S p) = .sl ((fixP S p).map rowF) p.length false := by unfold pgF; rw [fixP_len]
   simp +decide -implicitDefEqProofs (maxSteps := 4000000) only [go_sem, hlt]
   refine hQ1 _ _ ?_
   simp +decide -implicitDefEqProofs (maxSteps := 4000000) only [go_sem, htk, hp0, hpg]
theorem rWith_c {s : TV} {p : Pg} (hs : pgR s p) (hok : shpOk p) {a : Pl} (ha : inP p a) {d : Int} (hd : 0 ≤ d) : PCalls Tryd.prog 37 [s, plT a, .int .u8 (48 + d)] (pgF (setP p a d)) := by
 refine rWithG_c hs hok a.1 a.2.1 a.2.2 (48 + d) (oneD a d) fun i k e hi hk he => ?_
 by_cases hc : (i : Int) = (a.1 : Int) ∧ (k : Int) = (a.2.1 : Int)
 ·obtain ⟨h1, h2⟩ := hc
  have h1' : i = a.1 := by omega
  have h2' : k = a.2.1 := by omega
  subst h1' h2'
  refine .inl ⟨h1, h2, a.2.2, rfl, by rw [← he]; exact ha.2.2, ?_⟩
  rw [fix_cut (by rw [← he]; exact ha.2.2)]
  have : strOfNums [48 + d] = ⟨#[UInt8.ofNat (48 + d.toNat)]⟩ := by
   unfold strOfNums
   rw [List.map_cons, List.map_nil, show (48 + d).toNat = 48 + d.toNat by omega]
  rw [this]
 ·refine .inr ⟨hc, fix_same fun x => ?_⟩
  unfold oneD updD
  rw [if_neg fun e => hc (by rw [← e]; exact ⟨rfl, rfl⟩)]
end Go.Proofs.YtdkboibnokipaaaDoor

namespace Go.Ow
open Go Go.RowKit Go.Pm
end Go.Ow
namespace Go.Proofs.YtdkboibnokipaaaDoor
open Go.RowKit Go.Pm Go.Ow

end Go.Proofs.YtdkboibnokipaaaDoor

namespace Go.Proofs.YtdkboibnokipaaaDoor
open Go.RowKit Go.Pm Go.Ow
end Go.Proofs.YtdkboibnokipaaaDoor

namespace Go.Ow
open Go Go.RowKit Go.Pm
end Go.Ow
namespace Go.Proofs.YtdkboibnokipaaaDoor
open Go.RowKit Go.Pm Go.Ow

end Go.Proofs.YtdkboibnokipaaaDoor

namespace Go.Proofs.YtdkboibnokipaaaDoor
open Go.RowKit Go.Pm Go.Ow
section
variable (g : FuncId) (xs : List TV) (ps : List PV) (hl : List PO) (Y : YS) (t : TypeId)
end
end Go.Proofs.YtdkboibnokipaaaDoor

namespace Go.Proofs.YtdkboibnokipaaaDoor
open Go.RowKit Go.Pm Go.Ow
noncomputable def wkCheckT : List TV → Option TV := onPage fun p => .int .i64 (if validB p then 0 else 90)
theorem wkCheckT_ok : ∀ a r, wkCheckT a = some r → PCalls Tryd.prog 17 a r := onPage_ok fun s p h => wCheckPage_c h
theorem wkCheckT_of {s : TV} {p : List (List ByteArray)} (h : pgR s p) : wkCheckT [s] = some (.int .i64 (if validB p then 0 else 90)) := onPage_of h

end Go.Proofs.YtdkboibnokipaaaDoor

namespace Go.Ow
open Go Go.RowKit Go.Pm
end Go.Ow

namespace Go.Proofs.YtdkboibnokipaaaDoor
open Go.RowKit Go.Pm Go.Ow
end Go.Proofs.YtdkboibnokipaaaDoor

namespace Go.Proofs.YtdkboibnokipaaaDoor
open Go.RowKit Go.Pm Go.Ow
end Go.Proofs.YtdkboibnokipaaaDoor

namespace Go.Ow
open Go Go.RowKit Go.Pm
theorem mostTo_pos {ys : List (List Int)} {k : Nat} {n : Nat} (hne : ys ≠ []) (hd : ∀ y ∈ ys, digOk n y) : 1 ≤ mostTo ys k 10 := by
 obtain ⟨g, hg⟩ := List.exists_mem_of_ne_nil ys hne
 have hk := (hd g hg).2 k
 obtain ⟨e, he⟩ : ∃ e : Nat, g.getD k 0 = (e : Int) := ⟨(g.getD k 0).toNat, by omega⟩
 have h1 : 1 ≤ cntD ys k (e : Int) := by
  unfold cntD
  rw [Nat.one_le_iff_ne_zero, ← Nat.pos_iff_ne_zero, List.countP_pos_iff]
  exact ⟨g, hg, by rw [he]; simp⟩
 have h2 : ∀ m, e < m → cntD ys k (e : Int) ≤ mostTo ys k m := by
  intro m
  induction m with
  | zero => omega
  | succ m ih =>
   intro hm
   unfold mostTo
   by_cases e1 : e = m
   ·subst e1; omega
   ·have := ih (by omega); omega
 have := h2 10 (by omega)
 omega
theorem askTo_pos {ys : List (List Int)} {L : List Pl} {n : Nat} (hne : ys ≠ []) (hd : ∀ y ∈ ys, digOk n y) : ∀ j, 0 < j → (askTo ys L j).2 ≠ 0
 | j + 1, _ => by
  have h1 := mostTo_pos (k := j) hne hd
  unfold askTo
  split
  ·simp only; omega
  ·rename_i h
   exact fun e => h (.inl e)
theorem read_nil {p : Pg} (h : placesP p = []) : (readG p).length ≤ 1 := by
 rw [readG_eq, h]
 exact Nat.le_trans (List.length_filter_le _ _) (by unfold cands; simp)
end Go.Ow
namespace Go.Proofs.YtdkboibnokipaaaDoor
open Go.RowKit Go.Pm Go.Ow
def wInP (x : TV × TV × Int) (y : Pg × Pl) : Prop := pgR x.1 y.1 ∧ shpOk y.1 ∧ x.2.1 = plT y.2 ∧ inP y.1 y.2 ∧ 48 ≤ x.2.2
open Classical in
noncomputable def rWithT : List TV → Option TV
 | [t, pl, .int .u8 v] => if h : ∃ y, wInP (t, pl, v) y then some (pgF (setP (Classical.choose h).1 (Classical.choose h).2 (v - 48))) else none
 | _ => none
open Classical in
theorem rWithT_of {t : TV} {q : Pg} {a : Pl} {d : Int} (h1 : pgR t q) (h2 : shpOk q) (h3 : inP q a) (h4 : 0 ≤ d) : rWithT [t, .agg [.int .i64 a.1, .int .i64 a.2.1, .int .i64 a.2.2], .int .u8 (48 + d)] = some (pgF (setP q a d)) := by
 have h : ∃ y, wInP (t, plT a, 48 + d) y := ⟨(q, a), h1, h2, rfl, h3, by show 48 ≤ 48 + d; omega⟩
 show (if h : ∃ y, wInP (t, plT a, 48 + d) y then some (pgF (setP (Classical.choose h).1 (Classical.choose h).2 (48 + d - 48))) else none) = _
 rw [dif_pos h]
 have hs := Classical.choose_spec h
 have e1 : (Classical.choose h).1 = q := pgR_inj hs.1 h1
 have e2 : (Classical.choose h).2 = a := (plT_inj hs.2.2.1).symm
 rw [e1, e2, show 48 + d - 48 = d by omega]
open Classical in
theorem rWithT_ok : ∀ xs r, rWithT xs = some r → PCalls Tryd.prog 37 xs r := by
 intro xs r h
 unfold rWithT at h
 split at h
 ·rename_i t pl v
  split at h
  ·rename_i hx
   cases h
   have hs := Classical.choose_spec hx
   obtain ⟨h1, h2, h3, h4, h5⟩ := hs
   have h5 : 48 ≤ v := h5
   have := rWith_c h1 h2 h4 (d := v - 48) (by omega)
   rw [show 48 + (v - 48) = v by omega] at this
   have h3' : pl = plT (Classical.choose hx).2 := h3
   rw [← h3'] at this
   exact this
  ·cases h
 ·cases h
end Go.Proofs.YtdkboibnokipaaaDoor

namespace Go.Ow
open Go Go.RowKit Go.Pm
theorem good_set {p : Pg} (hv : validB p = true) {a : Pl} (ha : a ∈ placesP p) {d : Int} (h0 : 0 ≤ d) (h9 : d ≤ 9) (hs : validB (setP p a d) = true) (q : Pg) : goodP (setP p a d) q ↔ goodP p q ∧ byA q a = UInt8.ofNat (48 + d.toNat) := by
 have hm := mem_places_iff.1 ha
 have hsh := set_shp p a d
 unfold goodP likeP
 simp only [shp_in hsh, shp_first hsh, hsh]
 constructor
 ·rintro ⟨⟨h1, h2⟩, h3, h4, h5⟩
  have ea := h2 a hm.1 (by rw [set_by p a d hm.1, if_pos rfl]; exact byte_ne h0 h9)
  rw [set_by p a d hm.1, if_pos rfl] at ea
  refine ⟨⟨⟨h1, fun b hb hne => ?_⟩, h3, h4, h5⟩, ea⟩
  have hba : ¬ b = a := fun e => hne (e ▸ hm.2)
  have := h2 b hb (by rw [set_by p a d hb, if_neg hba]; exact hne)
  rw [set_by p a d hb, if_neg hba] at this
  exact this
 ·rintro ⟨⟨⟨h1, h2⟩, h3, h4, h5⟩, ea⟩
  refine ⟨⟨h1, fun b hb hne => ?_⟩, h3, h4, h5⟩
  rw [set_by p a d hb] at hne ⊢
  by_cases e : b = a
  ·subst e; rw [if_pos rfl]; exact ea
  ·rw [if_neg e] at hne ⊢; exact h2 b hb hne
theorem byte_inj {d e : Int} (h0 : 0 ≤ d) (h9 : d ≤ 9) (k0 : 0 ≤ e) (k9 : e ≤ 9) (h : UInt8.ofNat (48 + d.toNat) = UInt8.ofNat (48 + e.toNat)) : d = e := by
 have h1 := byte_nat h0 (show d ≤ 15 by omega)
 have h2 := byte_nat k0 (show e ≤ 15 by omega)
 rw [h] at h1
 omega
theorem read_by {p : Pg} {g : List Int} (hg : g ∈ readG p) {j : Nat} {a : Pl} (ha : (placesP p)[j]? = some a) : byA (fixP (asgD (placesP p) g) p) a = UInt8.ofNat (48 + (g.getD j 0).toNat) := by
 rw [readG_eq] at hg
 have hc := mem_cands.1 (List.mem_filter.1 hg).1
 have hm := mem_places_iff.1 (List.mem_of_getElem? ha)
 rw [fix_by _ _ hm.1]
 unfold fixB
 rw [asg_get (places_nodup p) hc.1 ha]
theorem set_count {p : Pg} (hv : validB p = true) {j : Nat} {a : Pl} (ha : (placesP p)[j]? = some a) {d : Int} (h0 : 0 ≤ d) (h9 : d ≤ 9) : (if validB (setP p a d) = true then (readG (setP p a d)).length else 0) = cntD (readG p) j d := by
 have hmem := List.mem_of_getElem? ha
 have hm := mem_places_iff.1 hmem
 have hdig : ∀ g ∈ readG p, (0 ≤ g.getD j 0 ∧ g.getD j 0 ≤ 9) := fun g hg => (readG_dig hg).2 j
 by_cases hs : validB (setP p a d) = true
 ·rw [if_pos hs, ← pages_len]
  have hperm : (pagesR (setP p a d)).Perm ((pagesR p).filter fun q => byA q a == UInt8.ofNat (48 + d.toNat)) := by
   rw [List.perm_ext_iff_of_nodup (pages_nodup _) ((pages_nodup p).filter _)]
   intro q
   rw [mem_pages hs, List.mem_filter, mem_pages hv, beq_iff_eq]
   exact good_set hv hmem h0 h9 hs q
  rw [hperm.length_eq]
  unfold pagesR cntD
  rw [List.filter_map, List.length_map, List.countP_eq_length_filter]
  congr 1
  refine List.filter_congr fun g hg => ?_
  show (byA (fixP (asgD (placesP p) g) p) a == _) = _
  rw [read_by hg ha, Bool.eq_iff_iff, beq_iff_eq, beq_iff_eq]
  exact ⟨fun h => byte_inj (hdig g hg).1 (hdig g hg).2 h0 h9 h, fun h => by rw [h]⟩
 ·rw [if_neg hs]
  have hf : firstB p a = true ∧ d = 0 := by
   rcases Classical.em (firstB p a = true ∧ d = 0) with h | h
   ·exact h
   ·exact absurd ((set_valid hv hm.1 h0 h9).2 h) hs
  symm
  unfold cntD
  rw [List.countP_eq_zero]
  intro g hg he
  rw [beq_iff_eq, hf.2] at he
  rw [readG_eq] at hg
  have hc := mem_cands.1 (List.mem_filter.1 hg).1
  have hj := (List.getElem?_eq_some_iff.1 ha).1
  have hgj : g[j]? = some (g.getD j 0) := by
   rw [List.getD_eq_getElem?_getD, List.getElem?_eq_getElem (by rw [hc.1]; exact hj)]; rfl
  exact (hc.2 j a _ ha hgj).2 hf.1 he
def sumC (ys : List (List Int)) (j : Nat) : Nat → Nat
 | 0 => 0
 | m + 1 => sumC ys j m + cntD ys j (m : Int)
theorem sumC_cons (g : List Int) (ys : List (List Int)) (j : Nat) (hg : 0 ≤ g.getD j 0) : ∀ m, sumC (g :: ys) j m = sumC ys j m + if g.getD j 0 < (m : Int) then 1 else 0
 | 0 => by unfold sumC; rw [if_neg (by omega)]
 | m + 1 => by
  have hc : cntD (g :: ys) j (m : Int) = cntD ys j (m : Int) + if g.getD j 0 = (m : Int) then 1 else 0 := by
   unfold cntD
   rw [List.countP_cons]
   congr 1
   by_cases h : g.getD j 0 = (m : Int)
   ·rw [if_pos h, if_pos (by rw [beq_iff_eq]; exact h)]
   ·rw [if_neg h, if_neg (by rw [beq_iff_eq]; exact h)]
  unfold sumC
  rw [sumC_cons g ys j hg m, hc]
  by_cases h1 : g.getD j 0 < (m : Int)
  ·rw [if_pos h1, if_neg (by omega), if_pos (by omega)]; omega
  ·by_cases h2 : g.getD j 0 = (m : Int)
   ·rw [if_neg h1, if_pos h2, if_pos (by omega)]; omega
   ·rw [if_neg h1, if_neg h2, if_neg (by omega)]; omega
theorem sumC_all {j : Nat} : ∀ {ys : List (List Int)}, (∀ g ∈ ys, 0 ≤ g.getD j 0 ∧ g.getD j 0 ≤ 9) → sumC ys j 10 = ys.length
 | [], _ => rfl
 | g :: ys, h => by
  have h1 := h g List.mem_cons_self
  rw [sumC_cons g ys j h1.1, sumC_all fun x hx => h x (List.mem_cons_of_mem _ hx), if_pos (by omega)]; rfl
theorem sumC_le (ys : List (List Int)) (j : Nat) : ∀ m, sumC ys j m ≤ m * ys.length
 | 0 => Nat.zero_le _
 | m + 1 => by
  have := sumC_le ys j m
  have := cntD_le ys j (m : Int)
  unfold sumC
  rw [Nat.add_mul]; omega
def numC (ys : List (List Int)) (j : Nat) : Nat → Nat
 | 0 => 0
 | m + 1 => numC ys j m + if cntD ys j (m : Int) = 0 then 0 else 1
theorem numC_le (ys : List (List Int)) (j : Nat) : ∀ m, numC ys j m ≤ m
 | 0 => Nat.le_refl _
 | m + 1 => by
  have := numC_le ys j m
  unfold numC
  split <;> omega
theorem cntD_pos {ys : List (List Int)} {j : Nat} {d : Int} : cntD ys j d ≠ 0 ↔ ∃ g ∈ ys, g.getD j 0 = d := by
 unfold cntD
 rw [← Nat.pos_iff_ne_zero, List.countP_pos_iff]
 simp only [beq_iff_eq]
theorem numC_one {ys : List (List Int)} {j : Nat} {v : Int} (h0 : 0 ≤ v) (h : ∀ d : Int, cntD ys j d ≠ 0 ↔ d = v) : ∀ m : Nat, numC ys j m = if v < (m : Int) then 1 else 0
 | 0 => by unfold numC; rw [if_neg (by omega)]
 | m + 1 => by
  unfold numC
  rw [numC_one h0 h m]
  by_cases e : (m : Int) = v
  ·have := (h (m : Int)).2 e
   rw [if_neg this, if_neg (by omega), if_pos (by omega)]
  ·have : cntD ys j (m : Int) = 0 := by
    rcases Nat.eq_zero_or_pos (cntD ys j (m : Int)) with h2 | h2
    ·exact h2
    ·exact absurd ((h (m : Int)).1 (by omega)) e
   rw [if_pos this]
   by_cases e2 : v < (m : Int)
   ·rw [if_pos e2, if_pos (by omega)]
   ·rw [if_neg e2, if_neg (by omega)]
theorem numC_two {ys : List (List Int)} {j : Nat} {u v : Int} (hne : u ≠ v) (hu : cntD ys j u ≠ 0) (hv : cntD ys j v ≠ 0) (u0 : 0 ≤ u) (v0 : 0 ≤ v) : ∀ m : Nat, (if u < (m : Int) then 1 else 0) + (if v < (m : Int) then 1 else 0) ≤ numC ys j m
 | 0 => by rw [if_neg (by omega), if_neg (by omega)]; exact Nat.zero_le _
 | m + 1 => by
  have ih := numC_two hne hu hv u0 v0 m
  unfold numC
  by_cases e1 : u = (m : Int)
  ·rw [e1] at hu
   rw [if_neg hu]
   have a1 : ¬ u < (m : Int) := by omega
   rw [if_neg a1] at ih
   rw [if_pos (show u < ((m + 1 : Nat) : Int) by omega)]
   by_cases e2 : v < (m : Int)
   ·rw [if_pos e2] at ih
    rw [if_pos (by omega)]; omega
   ·rw [if_neg (by omega)]; omega
  ·by_cases e2 : v = (m : Int)
   ·rw [e2] at hv
    rw [if_neg hv]
    rw [if_neg (show ¬ v < (m : Int) by omega)] at ih
    rw [if_pos (show v < ((m + 1 : Nat) : Int) by omega)]
    by_cases e3 : u < (m : Int)
    ·rw [if_pos e3] at ih
     rw [if_pos (by omega)]; omega
    ·rw [if_neg (by omega)]; omega
   ·have b1 : (u < ((m + 1 : Nat) : Int)) ↔ u < (m : Int) := by omega
    have b2 : (v < ((m + 1 : Nat) : Int)) ↔ v < (m : Int) := by omega
    simp only [b1, b2]
    omega
theorem sureD_at {ys : List (List Int)} {L : List Pl} (hn : L.Nodup) {j : Nat} {a : Pl} (ha : L[j]? = some a) : ∀ m, m ≤ L.length → sureD ys L m a = if j < m ∧ sureB ys j = true then some ((lastY ys).getD j 0) else none
 | 0, _ => by rw [if_neg (by omega)]; rfl
 | m + 1, hm => by
  have ih := sureD_at (ys := ys) hn ha m (by omega)
  obtain ⟨b, hb⟩ : ∃ b, L[m]? = some b := ⟨_, List.getElem?_eq_getElem (by omega)⟩
  have hgb : L.getD m (0, 0, 0) = b := by rw [List.getD_eq_getElem?_getD, hb]; rfl
  have hne : j ≠ m → a ≠ b := fun h e => by
   have hj := (List.getElem?_eq_some_iff.1 ha)
   have hk := (List.getElem?_eq_some_iff.1 hb)
   have hp := List.pairwise_iff_getElem.1 hn
   obtain ⟨j1, j2⟩ := hj
   obtain ⟨k1, k2⟩ := hk
   rcases Nat.lt_or_gt_of_ne h with hl | hl
   ·exact hp j m j1 k1 hl (j2.trans (e.trans k2.symm))
   ·exact hp m j k1 j1 hl (k2.trans (e.symm.trans j2.symm))
  unfold sureD
  by_cases hs : sureB ys m = true
  ·rw [if_pos hs, hgb]
   unfold updD
   by_cases e : j = m
   ·subst e
    rw [ha] at hb
    cases hb
    rw [if_pos rfl, if_pos ⟨by omega, hs⟩]
   ·rw [if_neg (hne e), ih]
    by_cases h2 : j < m ∧ sureB ys j = true
    ·rw [if_pos h2, if_pos ⟨by omega, h2.2⟩]
    ·rw [if_neg h2, if_neg fun h => h2 ⟨by omega, h.2⟩]
  ·rw [if_neg hs, ih]
   by_cases e : j = m
   ·subst e
    rw [if_neg (by omega), if_neg fun h => hs h.2]
   ·by_cases h2 : j < m ∧ sureB ys j = true
    ·rw [if_pos h2, if_pos ⟨by omega, h2.2⟩]
    ·rw [if_neg h2, if_neg fun h => h2 ⟨by omega, h.2⟩]
theorem rest_at {p : Pg} {j : Nat} {a : Pl} (ha : (placesP p)[j]? = some a) : byA (restP p) a = if sureB (readG p) j = true then UInt8.ofNat (48 + ((lastY (readG p)).getD j 0).toNat) else 63 := by
 have hm := mem_places_iff.1 (List.mem_of_getElem? ha)
 have hj := (List.getElem?_eq_some_iff.1 ha).1
 unfold restP
 rw [fix_by _ _ hm.1]
 unfold fixB
 rw [sureD_at (places_nodup p) ha _ (Nat.le_refl _)]
 by_cases h : sureB (readG p) j = true
 ·rw [if_pos ⟨hj, h⟩, if_pos h]
 ·rw [if_neg fun x => h x.2, if_neg h, hm.2]
theorem sureD_out {ys : List (List Int)} {L : List Pl} {a : Pl} (ha : a ∉ L) : ∀ m, m ≤ L.length → sureD ys L m a = none
 | 0, _ => rfl
 | m + 1, hm => by
  have hne : a ≠ L.getD m (0, 0, 0) := fun e => ha (by
   rw [e, List.getD_eq_getElem?_getD, List.getElem?_eq_getElem (by omega)]; exact List.getElem_mem _)
  unfold sureD
  split
  ·unfold updD
   rw [if_neg hne]
   exact sureD_out ha m (by omega)
  ·exact sureD_out ha m (by omega)
theorem rest_known {p : Pg} {a : Pl} (ha : inP p a) (hne : byA p a ≠ 63) : byA (restP p) a = byA p a := by
 unfold restP
 rw [fix_by _ _ ha]
 unfold fixB
 rw [sureD_out (fun h => hne (mem_places_iff.1 h).2) _ (Nat.le_refl _)]
theorem rest_shp (p : Pg) : shp (restP p) = shp p := fix_shp _ _
theorem sure_one {ys : List (List Int)} {j : Nat} (hne : ys ≠ []) (h : sureB ys j = true) (d : Int) : cntD ys j d ≠ 0 ↔ d = (lastY ys).getD j 0 := by
 have hm : lastY ys ∈ ys := by
  unfold lastY
  rw [List.getLastD_eq_getLast?, List.getLast?_eq_some_getLast hne]
  exact List.getLast_mem hne
 unfold sureB at h
 rw [List.all_eq_true] at h
 rw [cntD_pos]
 constructor
 ·rintro ⟨g, hg, rfl⟩
  have := h g hg
  rw [beq_iff_eq] at this
  exact this
 ·intro e
  exact ⟨_, hm, e.symm⟩
theorem unsure_two {ys : List (List Int)} {j : Nat} (hne : ys ≠ []) (h : ¬ sureB ys j = true) (hd : ∀ g ∈ ys, 0 ≤ g.getD j 0 ∧ g.getD j 0 ≤ 9) : 2 ≤ numC ys j 10 := by
 have hm : lastY ys ∈ ys := by
  unfold lastY
  rw [List.getLastD_eq_getLast?, List.getLast?_eq_some_getLast hne]
  exact List.getLast_mem hne
 unfold sureB at h
 rw [List.all_eq_true] at h
 have h2 : ∃ g ∈ ys, ¬ g.getD j 0 = (lastY ys).getD j 0 := Classical.byContradiction fun hn => h fun g hg => by
  rw [beq_iff_eq]
  exact Classical.byContradiction fun hx => hn ⟨g, hg, hx⟩
 obtain ⟨g, hg, hne2⟩ := h2
 have d1 := hd g hg
 have d2 := hd _ hm
 have := numC_two hne2 (cntD_pos.2 ⟨g, hg, rfl⟩) (cntD_pos.2 ⟨_, hm, rfl⟩) d1.1 d2.1 10
 rw [if_pos (by omega), if_pos (by omega)] at this
 omega
end Go.Ow

namespace Go.Proofs.YtdkboibnokipaaaDoor
open Go.RowKit Go.Pm Go.Ow
noncomputable def wkRestT : List TV → Option TV := onPage fun p => if validB p = true then restT p else .tup [.nilSl, .int .i64 0, .int .i64 90]
theorem wkRestT_ok : ∀ a r, wkRestT a = some r → PCalls Tryd.prog 14 a r := onPage_ok fun s p h => by
 by_cases hv : validB p = true
 ·rw [if_pos hv]; exact wRestore_c h hv
 ·rw [if_neg hv]; exact wRestoreN_c h (by simpa using hv)
theorem wkRestT_of {s : TV} {p : Pg} (h : pgR s p) : wkRestT [s] = some (if validB p = true then restT p else .tup [.nilSl, .int .i64 0, .int .i64 90]) := onPage_of h
theorem rest_set {p : Pg} (hv : validB p = true) {j : Nat} {a : Pl} (ha : (placesP p)[j]? = some a) {d : Int} (h0 : 0 ≤ d) (h9 : d ≤ 9) : ∃ X n e, wkRestT [pgF (setP p a d)] = some (.tup [X, .int .i64 n, .int .i64 e]) ∧ ((cntD (readG p) j d = 0 ∧ (e == 0) = false) ∨ (cntD (readG p) j d ≠ 0 ∧ e = 0 ∧ n = cntD (readG p) j d)) := by
 have hc := set_count hv ha h0 h9
 rw [wkRestT_of (pgF_R _)]
 by_cases hs : validB (setP p a d) = true
 ·rw [if_pos hs] at hc ⊢
  unfold restT
  by_cases hn : readG (setP p a d) = []
  ·rw [if_pos hn]
   rw [hn] at hc
   exact ⟨_, _, _, rfl, .inl ⟨hc.symm, rfl⟩⟩
  ·rw [if_neg hn]
   refine ⟨_, _, _, rfl, .inr ⟨?_, rfl, by rw [hc]⟩⟩
   rw [← hc]
   exact fun e => hn (List.length_eq_zero_iff.1 e)
 ·rw [if_neg hs] at hc ⊢
  exact ⟨_, _, _, rfl, .inl ⟨hc.symm, rfl⟩⟩
theorem rLike_c {s t : TV} {x y : Pg} (hs : pgR s x) (ht : pgR t y) (hok : shpOk x) (hsh : shp y = shp x) (h : ∀ a, inP x a → byA x a ≠ 63 → byA x a = byA y a) : PCalls Tryd.prog 36 [s, t] (.bool true) := by
 obtain ⟨rs, f, rfl, hrl, hrs⟩ := page_rows2 hs hok
 obtain ⟨qs, g, rfl, hql, hqs⟩ := page_rows2 ht ((shpOk_iff hsh).2 hok)
 have hpl := hok.1
 have hyl := shp_len hsh
 rw [hyl] at hql ⊢
 have hrow : ∀ i, i < x.length → ∃ r q g1 g2, x[i]? = some r ∧ rs.drop i = .sl (r.map .str) r.length g1 :: rs.drop (i + 1) ∧ qs.drop i = .sl (q.map .str) r.length g2 :: qs.drop (i + 1) ∧ rowA x i = r ∧ rowA y i = q ∧ q.length = r.length ∧ r.length ≤ 5 := fun i hi => by
  obtain ⟨r, hr⟩ : ∃ r, x[i]? = some r := ⟨_, List.getElem?_eq_getElem hi⟩
  obtain ⟨q, hq⟩ : ∃ q, y[i]? = some q := ⟨_, List.getElem?_eq_getElem (by omega)⟩
  obtain ⟨t1, h1⟩ : ∃ t, rs[i]? = some t := ⟨_, List.getElem?_eq_getElem (by omega)⟩
  obtain ⟨t2, h2⟩ : ∃ t, qs[i]? = some t := ⟨_, List.getElem?_eq_getElem (by omega)⟩
  obtain ⟨g1, rfl⟩ := hrs i r t1 hr h1
  obtain ⟨g2, rfl⟩ := hqs i q t2 hq h2
  have e1 : rowA x i = r := by unfold rowA; rw [List.getD_eq_getElem?_getD, hr]; rfl
  have e2 : rowA y i = q := by unfold rowA; rw [List.getD_eq_getElem?_getD, hq]; rfl
  have hl := shp_rowl hsh i
  rw [e1, e2] at hl
  have := (hok.2.1 i hi).1.2
  rw [e1] at this
  have d2 := tv_at h2
  rw [hl] at d2
  exact ⟨r, q, g1, g2, hr, tv_at h1, d2, e1, e2, hl, this⟩
 refine pcalls_by Tryd.mixes (Spec.gdt_ok noSpec_ok) (fn := Tryd.f36) Tryd.func36 rfl (by kernel_rfl) (by show 2 ≤ _; decide) ?_
 simp +decide -implicitDefEqProofs (maxSteps := 4000000) only [go_sem, Tryd.f36, bne_self_eq_false]
 refine pwpC_loopU (A := { i : Nat // i ≤ x.length }) [0, 1] (fun i => [(5, .t (.int .i64 i.1))]) (fun _ => []) (fun i => x.length - i.1) ⟨0, by omega⟩ (by decide) (fun _ => by rfl) ?_ fun Q1 hQ1 ⟨i, hi⟩ I1 hI1 => ?_
 ·simp +decide -implicitDefEqProofs (maxSteps := 4000000) only [go_sem]
 ·by_cases hlt : (i : Int) < x.length
  ·obtain ⟨r, q, g1, g2, hr, d1, d2, e1, e2, hl, hr5⟩ := hrow i (by omega)
   have hk1 : IntKind.i64.wrap ((i : Int) + 1) = ((i + 1 : Nat) : Int) := by rw [wrap_in (by omega) (by omega)]; omega
   simp +decide -implicitDefEqProofs (maxSteps := 4000000) only [go_sem, hlt, d1, d2, bne_self_eq_false, Nat.mul_one]
   refine pwpC_loopU (A := { k : Nat // k ≤ r.length }) [0, 1, 5] (fun k => [(6, .t (.int .i64 k.1))]) (fun _ => []) (fun k => r.length - k.1) ⟨0, by omega⟩ (by decide) (fun _ => by rfl) ?_ fun Q2 hQ2 ⟨k, hk⟩ I2 hI2 => ?_
   ·simp +decide -implicitDefEqProofs (maxSteps := 4000000) only [go_sem]
   ·by_cases hlt2 : (k : Int) < r.length
    ·obtain ⟨a, ha⟩ : ∃ a, r[k]? = some a := ⟨_, List.getElem?_eq_getElem (by omega)⟩
     obtain ⟨b, hb⟩ : ∃ b, q[k]? = some b := ⟨_, List.getElem?_eq_getElem (by omega)⟩
     have dx := txs_at ha
     have dy := txs_at hb
     have ea : entA r k = a := by unfold entA; rw [List.getD_eq_getElem?_getD, ha]; rfl
     have eb : entA q k = b := by unfold entA; rw [List.getD_eq_getElem?_getD, hb]; rfl
     have hsz := shp_size hsh i k
     rw [e1, e2, ea, eb] at hsz
     have hs5 := hok.2.2 i k (by omega) (by rw [e1]; omega)
     rw [e1, ea] at hs5
     have hk2 : IntKind.i64.wrap ((k : Int) + 1) = ((k + 1 : Nat) : Int) := by rw [wrap_in (by omega) (by omega)]; omega
     simp +decide -implicitDefEqProofs (maxSteps := 4000000) only [go_sem, hlt, d1, d2, hlt2, dx, dy, hsz, bne_self_eq_false, Nat.mul_one]
     refine pwpC_loopU (A := { j : Nat // j ≤ a.size }) [0, 1, 5, 6] (fun j => [(7, .t (.int .i64 j.1))]) (fun _ => []) (fun j => a.size - j.1) ⟨0, by omega⟩ (by decide) (fun _ => by rfl) ?_ fun Q3 hQ3 ⟨j, hj⟩ I3 hI3 => ?_
     ·simp +decide -implicitDefEqProofs (maxSteps := 4000000) only [go_sem]
     ·by_cases hlt3 : (j : Int) < a.size
      ·obtain ⟨u, hu⟩ : ∃ u, a.data.getD j 0 = u := ⟨_, rfl⟩
       obtain ⟨v, hvv⟩ : ∃ v, b.data.getD j 0 = v := ⟨_, rfl⟩
       have hk3 : IntKind.i64.wrap ((j : Int) + 1) = ((j + 1 : Nat) : Int) := by rw [wrap_in (by omega) (by omega)]; omega
       have hin : inP x (i, k, j) := ⟨by simp only; omega, by simp only; rw [e1]; omega, by simp only; rw [e1, ea]; omega⟩
       have hh := h (i, k, j) hin
       unfold byA at hh
       simp only at hh
       rw [e1, e2, ea, eb] at hh
       have g3 : ∀ z : ByteArray, z.data.toList.getD j 0 = z.data.getD j 0 := fun z => by simp
       rw [g3, g3, hu, hvv] at hh
       by_cases hq : u = 63
       ·have c1 : ((u.toNat : Int) != 63) = false := by rw [hq]; rfl
        simp +decide -implicitDefEqProofs (maxSteps := 4000000) only [go_sem, hlt, d1, d2, hlt2, dx, dy, hlt3, hu, c1, Nat.mul_one]
        refine hI3 _ ⟨j + 1, by omega⟩ (by simp only; omega) ?_
        simp +decide -implicitDefEqProofs (maxSteps := 4000000) only [go_sem, hk3]
       ·have c1 : ((u.toNat : Int) != 63) = true := by
         have : ¬ (u.toNat : Int) = 63 := fun e => hq (UInt8.toNat_inj.1 (show u.toNat = 63 by omega))
         simpa using this
        have huv := hh hq
        rw [← huv] at hvv
        have hlt4 : (j : Int) < b.size := by omega
        simp +decide -implicitDefEqProofs (maxSteps := 4000000) only [go_sem, hlt, d1, d2, hlt2, dx, dy, hlt3, hlt4, hsz, hu, hvv, c1, bne_self_eq_false, Nat.mul_one]
        refine hI3 _ ⟨j + 1, by omega⟩ (by simp only; omega) ?_
        simp +decide -implicitDefEqProofs (maxSteps := 4000000) only [go_sem, hk3]
      ·have hje : j = a.size := by omega
       subst hje
       simp +decide -implicitDefEqProofs (maxSteps := 4000000) only [go_sem, hlt, d1, d2, hlt2, dx, dy, hlt3, Nat.mul_one]
       refine hQ3 _ _ ?_
       simp +decide -implicitDefEqProofs (maxSteps := 4000000) only [go_sem]
       refine hI2 _ ⟨k + 1, by omega⟩ (by simp only; omega) ?_
       simp +decide -implicitDefEqProofs (maxSteps := 4000000) only [go_sem, hk2]
    ·have hke : k = r.length := by omega
     subst hke
     simp +decide -implicitDefEqProofs (maxSteps := 4000000) only [go_sem, hlt, d1, d2, hlt2, Nat.mul_one]
     refine hQ2 _ _ ?_
     simp +decide -implicitDefEqProofs (maxSteps := 4000000) only [go_sem]
     refine hI1 _ ⟨i + 1, by omega⟩ (by simp only; omega) ?_
     simp +decide -implicitDefEqProofs (maxSteps := 4000000) only [go_sem, hk1]
  ·have hie : i = x.length := by omega
   subst hie
   simp +decide -implicitDefEqProofs (maxSteps := 4000000) only [go_sem, hlt]
   refine hQ1 _ _ ?_
   simp +decide -implicitDefEqProofs (maxSteps := 4000000) only [go_sem]
def likeIn (s t : TV) (z : Pg × Pg) : Prop := pgR s z.1 ∧ pgR t z.2 ∧ shpOk z.1 ∧ shp z.2 = shp z.1 ∧ ∀ a, inP z.1 a → byA z.1 a ≠ 63 → byA z.1 a = byA z.2 a
open Classical in
noncomputable def rLikeT : List TV → Option TV
 | [s, t] => if ∃ z, likeIn s t z then some (.bool true) else none
 | _ => none
open Classical in
theorem rLikeT_of {s t : TV} {x y : Pg} (hs : pgR s x) (ht : pgR t y) (hok : shpOk x) (hsh : shp y = shp x) (h : ∀ a, inP x a → byA x a ≠ 63 → byA x a = byA y a) : rLikeT [s, t] = some (.bool true) := by
 show (if ∃ z, likeIn s t z then some (TV.bool true) else none) = _
 rw [if_pos ⟨(x, y), hs, ht, hok, hsh, h⟩]
open Classical in
theorem rLikeT_ok : ∀ a r, rLikeT a = some r → PCalls Tryd.prog 36 a r := by
 intro a r h
 unfold rLikeT at h
 split at h
 ·split at h
  ·rename_i hx
   cases h
   obtain ⟨z, h1, h2, h3, h4, h5⟩ := hx
   exact rLike_c h1 h2 h3 h4 h5
  ·cases h
 ·cases h
theorem like_rest {p : Pg} (hv : validB p = true) {s : TV} (hs : pgR s p) : rLikeT [s, pgV (restP p)] = some (.bool true) := rLikeT_of hs (pgV_R _) (valid_iff.1 hv).1 (rest_shp p) fun a ha hne => (rest_known ha hne).symm
theorem like_self {p : Pg} (hv : validB p = true) {s : TV} (hs : pgR s p) : rLikeT [s, s] = some (.bool true) := rLikeT_of hs hs (valid_iff.1 hv).1 rfl fun a ha hne => rfl
theorem place_at {s : TV} {p : Pg} (hs : pgR s p) (hok : shpOk p) {a : Pl} (ha : inP p a) : ∃ (rs : List TV) (f : Bool) (r : List ByteArray) (g : Bool) (x : ByteArray), s = .sl rs p.length f ∧ rs.drop a.1 = .sl (r.map .str) r.length g :: rs.drop (a.1 + 1) ∧ a.1 < p.length ∧ a.2.1 < r.length ∧ (r.map TV.str).drop a.2.1 = .str x :: (r.map TV.str).drop (a.2.1 + 1) ∧ a.2.2 < x.size ∧ x.data.getD a.2.2 0 = byA p a ∧ p.length ≤ 5 ∧ r.length ≤ 5 ∧ x.size ≤ 5 := by
 obtain ⟨rs, f, e, hrl, hrs⟩ := page_rows2 hs hok
 obtain ⟨r, hr⟩ : ∃ r, p[a.1]? = some r := ⟨_, List.getElem?_eq_getElem ha.1⟩
 obtain ⟨t, ht⟩ : ∃ t, rs[a.1]? = some t := ⟨_, List.getElem?_eq_getElem (by have := ha.1; omega)⟩
 obtain ⟨g, rfl⟩ := hrs a.1 r t hr ht
 have er : rowA p a.1 = r := by unfold rowA; rw [List.getD_eq_getElem?_getD, hr]; rfl
 have hk2 := ha.2.1
 rw [er] at hk2
 obtain ⟨x, hx⟩ : ∃ x, r[a.2.1]? = some x := ⟨_, List.getElem?_eq_getElem hk2⟩
 have ex : entA r a.2.1 = x := by unfold entA; rw [List.getD_eq_getElem?_getD, hx]; rfl
 have hx3 := ha.2.2
 rw [er, ex] at hx3
 have h5 := (hok.2.1 a.1 ha.1).1.2
 rw [er] at h5
 have h6 := (hok.2.2 a.1 a.2.1 ha.1 ha.2.1).2
 rw [er, ex] at h6
 refine ⟨rs, f, r, g, x, e, tv_at ht, ha.1, hk2, txs_at hx, hx3, ?_, hok.1.2, h5, h6⟩
 unfold byA
 rw [er, ex]
 simp
theorem rLost9_c {s : TV} {p : Pg} (hs : pgR s p) (hok : shpOk p) {a : Pl} (ha : inP p a) : PCalls Tryd.prog 38 [s, .agg [.int .i64 a.1, .int .i64 a.2.1, .int .i64 a.2.2]] (.bool (decide (byA p a = 63))) := by
 obtain ⟨rs, f, r, g, x, rfl, d1, h1, h2, d2, h3, hb, l1, l2, l3⟩ := place_at hs hok ha
 have b1 : (a.1 : Int) < p.length := by omega
 have b2 : (a.2.1 : Int) < r.length := by omega
 have b3 : (a.2.2 : Int) < x.size := by omega
 have w1 : IntKind.i64.wrap ((p.length : Int) - 1) = (p.length : Int) - 1 := wrap_in (by omega) (by omega)
 have w2 : IntKind.i64.wrap ((r.length : Int) - 1) = (r.length : Int) - 1 := wrap_in (by omega) (by omega)
 have w3 : IntKind.i64.wrap ((x.size : Int) - 1) = (x.size : Int) - 1 := wrap_in (by omega) (by omega)
 have i1 : inW (a.1 : Int) 0 ((p.length : Int) - 1) = true := inW_iff.2 (by omega)
 have i2 : inW (a.2.1 : Int) 0 ((r.length : Int) - 1) = true := inW_iff.2 (by omega)
 have i3 : inW (a.2.2 : Int) 0 ((x.size : Int) - 1) = true := inW_iff.2 (by omega)
 obtain ⟨u, hu⟩ : ∃ u, byA p a = u := ⟨_, rfl⟩
 rw [hu] at hb ⊢
 have c1 : ((u.toNat : Int) == 63) = decide (u = 63) := by
  by_cases e : u = 63
  ·rw [decide_eq_true e, e]; rfl
  ·rw [decide_eq_false e, beq_eq_false_iff_ne]
   exact fun h => e (UInt8.toNat_inj.1 (show u.toNat = 63 by omega))
 refine pcalls_by Tryd.mixes (Spec.gdt_ok spRa_ok) (fn := Tryd.f38) Tryd.func38 rfl (by kernel_rfl) (by show 2 ≤ _; decide) ?_
 simp +decide -implicitDefEqProofs (maxSteps := 4000000) only [go_sem, Tryd.f38, b1, b2, b3, w1, w2, w3, i1, i2, i3, d1, d2, hb, c1, Nat.mul_one]
noncomputable def spMo : Pm.Spec := (noSpec.one 37 rWithT).one 14 wkRestT
theorem spMo_ok : SpecOk Tryd.prog spMo := Spec.one_ok wkRestT_ok (Spec.one_ok rWithT_ok noSpec_ok)
theorem rMost_c {s : TV} {p : Pg} (hs : pgR s p) (hv : validB p = true) {j : Nat} {a : Pl} (ha : (placesP p)[j]? = some a) : PCalls Tryd.prog 39 [s, .agg [.int .i64 a.1, .int .i64 a.2.1, .int .i64 a.2.2]] (.int .i64 (mostTo (readG p) j 10)) := by
 have hain := (mem_places_iff.1 (List.mem_of_getElem? ha)).1
 have hok := (valid_iff.1 hv).1
 refine pcalls_by Tryd.mixes (Spec.gdt_ok spMo_ok) (fn := Tryd.f39) Tryd.func39 rfl (by kernel_rfl) (by show 2 ≤ _; decide) ?_
 simp +decide -implicitDefEqProofs (maxSteps := 4000000) only [go_sem, Tryd.f39, spMo]
 refine pwpC_loopU (A := { d : Nat // d ≤ 10 }) [0, 3] (fun d => [(6, .t (.int .i64 d.1)), (5, .t (.int .i64 (mostTo (readG p) j d.1)))]) (fun _ => []) (fun d => 10 - d.1) ⟨0, by omega⟩ (by decide) (fun _ => by rfl) ?_ fun Q1 hQ1 ⟨d, hd⟩ I1 hI1 => ?_
 ·simp +decide -implicitDefEqProofs (maxSteps := 4000000) only [go_sem, spMo, show mostTo (readG p) j 0 = 0 from rfl]
 ·by_cases hlt : (d : Int) < 10
  ·have hk1 : IntKind.i64.wrap ((d : Int) + 1) = ((d + 1 : Nat) : Int) := by rw [wrap_in (by omega) (by omega)]; omega
   have hw1 : IntKind.i64.wrap (48 + (d : Int)) = 48 + d := wrap_in (by omega) (by omega)
   have hw2 : IntKind.u8.wrap (48 + (d : Int)) = 48 + d := by rw [IntKind.wrap_u8]; omega
   have kw := rWithT_of (d := (d : Int)) hs hok hain (by omega)
   obtain ⟨X, n, e, kr, hc⟩ := rest_set hv ha (d := (d : Int)) (by omega) (by omega)
   have hms : mostTo (readG p) j (d + 1) = max (mostTo (readG p) j d) (cntD (readG p) j (d : Int)) := rfl
   rcases hc with ⟨h0, he⟩ | ⟨h0, rfl, rfl⟩
   ·rw [h0, Nat.max_zero] at hms
    simp +decide -implicitDefEqProofs (maxSteps := 4000000) only [go_sem, spMo, hlt, hw1, hw2, kw, kr, he]
    refine hI1 _ ⟨d + 1, by omega⟩ (by simp only; omega) ?_
    simp +decide -implicitDefEqProofs (maxSteps := 4000000) only [go_sem, spMo, hk1, hms]
   ·have hmx : max (mostTo (readG p) j d : Int) (cntD (readG p) j (d : Int) : Int) = (mostTo (readG p) j (d + 1) : Int) := by rw [hms]; omega
    simp +decide -implicitDefEqProofs (maxSteps := 4000000) only [go_sem, spMo, hlt, hw1, hw2, kw, kr, hmx]
    refine hI1 _ ⟨d + 1, by omega⟩ (by simp only; omega) ?_
    simp +decide -implicitDefEqProofs (maxSteps := 4000000) only [go_sem, spMo, hk1]
  ·have hde : d = 10 := by omega
   subst hde
   simp +decide -implicitDefEqProofs (maxSteps := 4000000) only [go_sem, spMo]
   refine hQ1 _ _ ?_
   simp +decide -implicitDefEqProofs (maxSteps := 4000000) only [go_sem, spMo]
end Go.Proofs.YtdkboibnokipaaaDoor

namespace Go.Proofs.YtdkboibnokipaaaDoor
open Go.RowKit Go.Pm Go.Ow
theorem wInt {k : Nat} {cs : List TV} (h : cellsOk Tryd.prog (k + 1) 3 cs) : ∃ n, cs = [.int .i64 n] ∧ -9223372036854775808 ≤ n ∧ n ≤ 9223372036854775807 := cellsOk_i64 (by kernel_rfl) h
theorem wStr {k : Nat} {cs : List TV} (h : cellsOk Tryd.prog (k + 1) 9 cs) : ∃ s : ByteArray, cs = [.str s] := by
 unfold cellsOk at h
 rw [Tryd.underlying9] at h
 obtain ⟨s, h, _⟩ := h
 exact ⟨s, h⟩
theorem wSlice {k : Nat} {t e : TypeId} {cs : List TV} (hu : Program.underlying Tryd.prog t = some (.slice e)) (h : cellsOk Tryd.prog (k + 1) t cs) : ∃ x, cs = [x] ∧ cellsOk Tryd.prog (k + 1) t [x] := by
 have h' := h
 unfold cellsOk at h'
 rw [hu] at h'
 rcases h' with h' | ⟨rows, full, h', _⟩
 ·exact ⟨_, h', by rw [← h']; exact h⟩
 ·exact ⟨_, h', by rw [← h']; exact h⟩
theorem wTexts {x : TV} {k : Nat} (h : cellsOk Tryd.prog (k + 2) 41 [x]) : ∃ l : List ByteArray, txR x l ∧ l.length ≤ 8796093022208 := by
 obtain ⟨l, h1, h2, h3, _⟩ := cellsOk_row (e := 9) (c := fun s : ByteArray => [TV.str s]) (p := fun _ => True) (by kernel_rfl) (fun cs hc => by obtain ⟨s, rfl⟩ := wStr hc; exact ⟨s, rfl, trivial⟩) h
 rw [show Program.bytesOf Tryd.prog 9 = 16 by kernel_rfl] at h3
 unfold reachBytes at h3
 refine ⟨l, ?_, by omega⟩
 have e : ∀ m : List ByteArray, m.flatMap (fun s => [TV.str s]) = m.map .str := fun m => by induction m with
  | nil => rfl
  | cons a m ih => rw [List.flatMap_cons, ih]; rfl
 rw [e] at h1
 exact h1
end Go.Proofs.YtdkboibnokipaaaDoor

namespace Go.Proofs.YtdkboibnokipaaaDoor
open Go.RowKit Go.Pm Go.Ow
theorem pageArg {x : TV} (h : argOk Tryd.prog 22 x) : ∃ p : List (List ByteArray), pgR x p ∧ p.length ≤ 140737488355328 ∧ ∀ r ∈ p, r.length ≤ 140737488355328 := by
 obtain ⟨l, h1, h2, h3, h4⟩ := cellsOk_row (e := 41) (c := fun y : TV × List ByteArray => [y.1]) (p := fun y => txR y.1 y.2 ∧ y.2.length ≤ 8796093022208) (by kernel_rfl) (fun cs hc => by
  obtain ⟨s, rfl, h5⟩ := wSlice (e := 9) (by kernel_rfl) hc
  obtain ⟨m, hm, lm⟩ := wTexts h5
  exact ⟨(s, m), rfl, hm, lm⟩) (argOk_sl (e := 41) (by kernel_rfl) h)
 rw [show Program.bytesOf Tryd.prog 41 = 24 by kernel_rfl] at h3
 unfold reachBytes at h3
 have hf : ∀ m : List (TV × List ByteArray), m.flatMap (fun y => [y.1]) = m.map (·.1) := fun m => by induction m with
  | nil => rfl
  | cons a m ih => rw [List.flatMap_cons, ih]; rfl
 rw [hf] at h1
 refine ⟨l.map (·.2), ?_, by rw [List.length_map]; omega, fun r hr => ?_⟩
 ·rcases h1 with ⟨e, e2⟩ | ⟨f, e⟩
  ·exact .inl ⟨e, by rw [e2]; rfl⟩
  ·refine .inr ⟨l.map (·.1), f, by rw [List.length_map]; exact e, by rw [List.length_map, List.length_map], fun k r t hr ht => ?_⟩
   rw [List.getElem?_map, Option.map_eq_some_iff] at hr ht
   obtain ⟨a, ha, rfl⟩ := hr
   obtain ⟨b, hb, rfl⟩ := ht
   rw [ha] at hb
   cases hb
   exact (h2 a (List.mem_of_getElem? ha)).1
 ·obtain ⟨a, ha, rfl⟩ := List.mem_map.1 hr
  have := (h2 a ha).2
  omega
theorem threeArg {x : TV} (h : argOk Tryd.prog 59 x) : ∃ a b c, x = .agg [.int .i64 a, .int .i64 b, .int .i64 c] ∧ (-9223372036854775808 ≤ a ∧ a ≤ 9223372036854775807) ∧ (-9223372036854775808 ≤ b ∧ b ≤ 9223372036854775807) ∧ (-9223372036854775808 ≤ c ∧ c ≤ 9223372036854775807) := by
 obtain ⟨cs, rfl, h'⟩ := argOk_agg (ts := [3, 3, 3]) (by kernel_rfl) h
 have h := cellsOk_tys (ts := [3, 3, 3]) (by kernel_rfl) h'
 obtain ⟨_, r, rfl, h1, h⟩ := seqOk_cons h
 obtain ⟨_, r, rfl, h2, h⟩ := seqOk_cons h
 obtain ⟨_, r, rfl, h3, h⟩ := seqOk_cons h
 cases seqOk_nil h
 obtain ⟨a, rfl, ia⟩ := wInt h1
 obtain ⟨b, rfl, ib⟩ := wInt h2
 obtain ⟨c, rfl, ic⟩ := wInt h3
 exact ⟨a, b, c, rfl, ia, ib, ic⟩
end Go.Proofs.YtdkboibnokipaaaDoor

namespace Go.Proofs.YtdkboibnokipaaaDoor
open Go.RowKit Go.Pm Go.Ow

theorem wk_glob {w : World} {l : List (String × DataW Unit)} (hm : ("octant/wreck.kinds", Rows.laid_octant_wreck_kinds) ∈ l) (h : laidMetH Tryd.prog l w) : GlobOk (allF w) := by
 have hf := h.funcs (n := "octant/wreck.kinds") (d := .agg [.iface "func" (.lit (.string [40, 111, 99, 116, 97, 110, 116, 47, 119, 114, 101, 99, 107, 46, 98, 111, 111, 107, 41, 46, 109, 97, 100, 101])), .iface "func" (.lit (.string [40, 111, 99, 116, 97, 110, 116, 47, 119, 114, 101, 99, 107, 46, 98, 111, 111, 107, 41, 46, 109, 101, 110, 100, 101, 100])), .iface "func" (.lit (.string [40, 111, 99, 116, 97, 110, 116, 47, 119, 114, 101, 99, 107, 46, 98, 111, 111, 107, 41, 46, 97, 103, 97, 105, 110])), .iface "func" (.lit (.string [40, 111, 99, 116, 97, 110, 116, 47, 119, 114, 101, 99, 107, 46, 98, 111, 111, 107, 41, 46, 108, 111, 115, 116]))]) hm
 obtain ⟨g, t, cs, fuel, p, hg, ht, hv, hd⟩ := hf
 have hg0 : Tryd.prog.globalNamed "octant/wreck.kinds" = some 0 := by kernel_rfl
 have ht0 : (Tryd.prog.globals[0]?).map (·.type) = some 129 := by kernel_rfl
 obtain rfl := Option.some.inj (hg0.symm.trans hg)
 obtain rfl := Option.some.inj (ht0.symm.trans ht)
 have hd' : DataW.trod (funcToken Tryd.prog) Tryd.prog w 0 (fun _ => true) true fuel 129 cs.toList = some (.agg [.held [40, 111, 99, 116, 97, 110, 116, 47, 119, 114, 101, 99, 107, 46, 98, 111, 111, 107, 41, 46, 109, 97, 100, 101], .held [40, 111, 99, 116, 97, 110, 116, 47, 119, 114, 101, 99, 107, 46, 98, 111, 111, 107, 41, 46, 109, 101, 110, 100, 101, 100], .held [40, 111, 99, 116, 97, 110, 116, 47, 119, 114, 101, 99, 107, 46, 98, 111, 111, 107, 41, 46, 97, 103, 97, 105, 110], .held [40, 111, 99, 116, 97, 110, 116, 47, 119, 114, 101, 99, 107, 46, 98, 111, 111, 107, 41, 46, 108, 111, 115, 116]], p) := hd
 obtain ⟨xs, m, _, ex, hcl, hl, hel⟩ := DataW.trod_array Tryd.underlying129 hd'
 have hce : Tryd.prog.cellsOf 128 = 1 := by kernel_rfl
 have hct : Tryd.prog.cellsOf 129 = 4 := by kernel_rfl
 rw [hct] at hcl
 simp only [Prod.mk.injEq, DataW.agg.injEq] at ex
 obtain ⟨ex, _⟩ := ex
 match xs, hl, ex, hel with
 | [x0, x1, x2, x3], _, ex, hel =>
  simp only [List.map_cons, List.map_nil, List.cons.injEq, and_true] at ex
  obtain ⟨y0, y1, y2, y3⟩ := ex
  obtain ⟨x0a, x0b⟩ := x0
  obtain ⟨x1a, x1b⟩ := x1
  obtain ⟨x2a, x2b⟩ := x2
  obtain ⟨x3a, x3b⟩ := x3
  simp only at y0 y1 y2 y3
  subst y0; subst y1; subst y2; subst y3
  match hcc : cs.toList, hcl with
  | [v0, v1, v2, v3], _ =>
   rw [hcc, hce] at hel
   have h0 := hel 0 (by omega)
   have h1 := hel 1 (by omega)
   have h2 := hel 2 (by omega)
   have h3 := hel 3 (by omega)
   obtain rfl := func_of_trod (f0 := 163) Tryd.underlying128 (by kernel_rfl) h0
   obtain rfl := func_of_trod (f0 := 164) Tryd.underlying128 (by kernel_rfl) h1
   obtain rfl := func_of_trod (f0 := 160) Tryd.underlying128 (by kernel_rfl) h2
   obtain rfl := func_of_trod (f0 := 165) Tryd.underlying128 (by kernel_rfl) h3
   have hcell : ∀ i, w.cell? ⟨0, i, none⟩ = [Value.func (.func 163) #[] #[], .func (.func 164) #[] #[], .func (.func 160) #[] #[], .func (.func 165) #[] #[]][i]? := fun i => by
    have := World.var?_cell hg hv i
    rw [this, ← Array.getElem?_toList, hcc]
   intro g cs hc
   have hc2 : globs.lookup g = some cs := hc
   by_cases hg1 : g = 0
   ·subst hg1
    have e : cs = [.fn 163 [] [], .fn 164 [] [], .fn 160 [] [], .fn 165 [] []] := (Option.some.inj (show some _ = some cs from hc)).symm
    rw [e]
    refine .cptr _ _ [Value.func (.func 163) #[] #[], .func (.func 164) #[] #[], .func (.func 160) #[] #[], .func (.func 165) #[] #[]] rfl (fun i u hi => ⟨?_, ?_⟩) (fun i c u hi hj => ?_)
    ·rw [add_plain, Nat.zero_add]
     show w.cell? _ = some u
     rw [hcell]; exact hi
    ·match i, hi with
     | 0, hi => cases hi; rfl
     | 1, hi => cases hi; rfl
     | 2, hi => cases hi; rfl
     | 3, hi => cases hi; rfl
    ·match i, hi, hj with
     | 0, hi, hj => cases hi; cases hj; exact .fn _ [] [] [] [] rfl (fun i c u h => by cases h) rfl (fun i c u h => by cases h)
     | 1, hi, hj => cases hi; cases hj; exact .fn _ [] [] [] [] rfl (fun i c u h => by cases h) rfl (fun i c u h => by cases h)
     | 2, hi, hj => cases hi; cases hj; exact .fn _ [] [] [] [] rfl (fun i c u h => by cases h) rfl (fun i c u h => by cases h)
     | 3, hi, hj => cases hi; cases hj; exact .fn _ [] [] [] [] rfl (fun i c u h => by cases h) rfl (fun i c u h => by cases h)
   ·exfalso
    simp [globs, List.lookup] at hc2
    split at hc2 <;> simp_all
noncomputable def wk_start (os : Os) : World := (World.doorLaid Tryd.prog 24 os).layVars Tryd.prog [("unicode/utf8.acceptRanges", Rows.laid_unicode_utf8_acceptRanges), ("unicode/utf8.first", Rows.laid_unicode_utf8_first)]
theorem wk_start_os (os : Os) : (wk_start os).os = os := World.layVars_os _ _ _
theorem wk_met (os : Os) (args : Array Value) : laidMetH Tryd.prog [("unicode/utf8.acceptRanges", Rows.laid_unicode_utf8_acceptRanges), ("octant/wreck.kinds", Rows.laid_octant_wreck_kinds), ("unicode/utf8.first", Rows.laid_unicode_utf8_first)] ((wk_start os).forCall (fun _ _ => 0) ⟨#[], args, []⟩).memory := by
 refine laidMetH_of_parts3 (fuel := 8) ?_ (by kernel_rfl) (by kernel_rfl)
 have e0 : ([("unicode/utf8.acceptRanges", Rows.laid_unicode_utf8_acceptRanges), ("octant/wreck.kinds", Rows.laid_octant_wreck_kinds), ("unicode/utf8.first", Rows.laid_unicode_utf8_first)] : List (String × DataW Unit)).filter (fun x => x.2.handleName?.isNone) = [("unicode/utf8.acceptRanges", Rows.laid_unicode_utf8_acceptRanges), ("unicode/utf8.first", Rows.laid_unicode_utf8_first)] := by kernel_rfl
 rw [e0]
 have e1 : ([("unicode/utf8.acceptRanges", Rows.laid_unicode_utf8_acceptRanges), ("unicode/utf8.first", Rows.laid_unicode_utf8_first)] : List (String × DataW Unit)).filter (fun x => ["unicode/utf8.acceptRanges", "unicode/utf8.first"].contains x.1) = [("unicode/utf8.acceptRanges", Rows.laid_unicode_utf8_acceptRanges), ("unicode/utf8.first", Rows.laid_unicode_utf8_first)] := by kernel_rfl
 have e2 : ([("unicode/utf8.acceptRanges", Rows.laid_unicode_utf8_acceptRanges), ("unicode/utf8.first", Rows.laid_unicode_utf8_first)] : List (String × DataW Unit)).filter (fun x => !["unicode/utf8.acceptRanges", "unicode/utf8.first"].contains x.1) = [] := by kernel_rfl
 have h : laidMet Tryd.prog [("unicode/utf8.acceptRanges", Rows.laid_unicode_utf8_acceptRanges), ("unicode/utf8.first", Rows.laid_unicode_utf8_first)] (wk_start os) := laidMet_layVars (w0 := World.doorLaid Tryd.prog 24 os) ["unicode/utf8.acceptRanges", "unicode/utf8.first"] [] (by rw [e1]; rfl) (by rw [e1]; kernel_rfl) (by rw [e1]; kernel_rfl) (by rw [e2]; exact LaidIn.none)
 exact h.of_heap (by simp [World.memory, World.forCall, Input.heap])
theorem wk_shaped (os : Os) (args : Array Value) : ((wk_start os).forCall (fun _ _ => 0) ⟨#[], args, []⟩).Shaped Tryd.prog := World.shaped_of_ZipB (by kernel_rfl) (by kernel_rfl)
end Go.Proofs.YtdkboibnokipaaaDoor

namespace Go.Ow
open Go Go.RowKit Go.Pm
end Go.Ow
namespace Go.Proofs.YtdkboibnokipaaaDoor
open Go.RowKit Go.Pm Go.Ow
theorem rMod_c (n b : Int) (h : 0 < b) (h2 : b ≤ 9223372036854775807) : PCalls Tryd.prog 33 [.int .i64 n, .int .i64 b] (.int .i64 (n % b)) := by
 refine pcalls_by Tryd.mixes noSpec_ok (fn := Tryd.f33) Tryd.func33 rfl (by kernel_rfl) (by show 2 ≤ _; decide) ?_
 have hne : ¬ b = 0 := by omega
 simp +decide (maxSteps := 4000000) only [go_sem, decide_true, Tryd.f33, hne]
 have e := Int.tmod_eq_emod (a := n) (b := b)
 have e1 := Int.emod_nonneg n hne
 have e2 := Int.emod_lt_of_pos n h
 by_cases hn : n.tmod b < 0
 ·simp +decide (maxSteps := 4000000) only [go_sem, decide_true, hn]
  have e3 : n.tmod b + b = n % b := by
   rw [e] at hn ⊢
   split at hn
   ·omega
   ·rename_i hc
    rw [if_neg hc]
    have : (b.natAbs : Int) = b := by omega
    omega
  rw [e3, wrap_in (by omega) (by omega)]
 ·simp +decide (maxSteps := 4000000) only [go_sem, decide_true, hn]
  rw [e] at hn ⊢
  split at hn
  ·rename_i hc; rw [if_pos hc]; simp
  ·rename_i hc
   have : (b.natAbs : Int) = b := by omega
   omega
noncomputable def rfMod : List TV → Option TV
 | [.int .i64 n, .int .i64 b] => if 0 < b ∧ b ≤ 9223372036854775807 then some (.int .i64 (n % b)) else none
 | _ => none
theorem rfMod_ok : ∀ xs r, rfMod xs = some r → PCalls Tryd.prog 33 xs r := by
 intro xs r h
 unfold rfMod at h
 split at h
 ·split at h
  ·rename_i hc; cases h; exact rMod_c _ _ hc.1 hc.2
  ·cases h
 ·cases h
attribute [go_sem] rfMod
end Go.Proofs.YtdkboibnokipaaaDoor

namespace Go.Proofs.YtdkboibnokipaaaDoor
open Go.RowKit Go.Pm Go.Ow
noncomputable def spSu : Pm.Spec := ((((noSpec.one 37 rWithT).one 14 wkRestT).one 17 wkCheckT).one 36 rLikeT).one 21 (oneP [] (.bool true))
theorem spSu_ok : SpecOk Tryd.prog spSu := Spec.one_ok (oneP_ok oWorks_c) (Spec.one_ok rLikeT_ok (Spec.one_ok wkCheckT_ok (Spec.one_ok wkRestT_ok (Spec.one_ok rWithT_ok noSpec_ok))))
theorem WreckSure_c {s : TV} {p : Pg} (hs : pgR s p) : PCalls Tryd.prog 7 [s] (.bool true) := by
 have kr := wkRestT_of hs
 have kc := wkCheckT_of hs
 by_cases hv : validB p = true
 rotate_left
 ·rw [if_neg hv] at kr kc
  refine pcalls_by Tryd.mixes (Spec.gdt_ok spSu_ok) (fn := Tryd.f7) Tryd.func7 rfl (by kernel_rfl) (by show 1 ≤ _; decide) ?_
  simp +decide -implicitDefEqProofs (maxSteps := 4000000) only [go_sem, Tryd.f7, spSu, kr]
 rw [if_pos hv] at kr kc
 by_cases hn : readG p = []
 ·have e : restT p = .tup [.nilSl, .int .i64 0, .int .i64 91] := by unfold restT; rw [if_pos hn]
  rw [e] at kr
  refine pcalls_by Tryd.mixes (Spec.gdt_ok spSu_ok) (fn := Tryd.f7) Tryd.func7 rfl (by kernel_rfl) (by show 1 ≤ _; decide) ?_
  simp +decide -implicitDefEqProofs (maxSteps := 4000000) only [go_sem, Tryd.f7, spSu, kr]
 obtain ⟨A, hAe⟩ : ∃ A, restP p = A := ⟨_, rfl⟩
 have e : restT p = .tup [pgV A, .int .i64 (readG p).length, .int .i64 0] := by unfold restT; rw [if_neg hn, hAe]
 have l1 := like_rest hv hs
 have l2 := like_self hv hs
 have hok := (valid_iff.1 hv).1
 have hsh : shp A = shp p := by rw [← hAe]; exact rest_shp p
 obtain ⟨ps, fa, hA, hal, has⟩ := page_rows2 (pgV_R A) ((shpOk_iff hsh).2 hok)
 have hAl := shp_len hsh
 rw [hAl] at hal hA
 rw [hAe, hA] at l1
 rw [e, hA] at kr
 have hrest := fun (j : Nat) (a : Pl) (ha : (placesP p)[j]? = some a) => rest_at ha
 rw [hAe] at hrest
 have hsz := readG_size (valid_iff.1 hv).2.2
 have hdg := fun y (hy : y ∈ readG p) => readG_dig hy
 have hset := fun (j : Nat) (a : Pl) (ha : (placesP p)[j]? = some a) (d : Int) (h0 : 0 ≤ d) (h9 : d ≤ 9) => rest_set hv ha h0 h9
 obtain ⟨ys, hys⟩ : ∃ ys, readG p = ys := ⟨_, rfl⟩
 rw [hys] at kr hrest hsz hdg hset hn
 obtain ⟨rs, f, rfl, hrl, hrs⟩ := page_rows2 hs hok
 have hpl := hok.1
 have hp5 : ¬ (p.length : Int) > 5 := by omega
 refine pcalls_by Tryd.mixes (Spec.gdt_ok spSu_ok) (fn := Tryd.f7) Tryd.func7 rfl (by kernel_rfl) (by show 1 ≤ _; decide) ?_
 simp +decide -implicitDefEqProofs (maxSteps := 4000000) only [go_sem, Tryd.f7, spSu, kr, kc, l1, l2, hp5]
 refine pwpC_loopU (A := { i : Nat // i ≤ p.length }) [0, 3, 4] (fun i => [(6, .t (.int .i64 i.1))]) (fun _ => []) (fun i => p.length - i.1) ⟨0, by omega⟩ (by decide) (fun _ => by rfl) ?_ fun Q1 hQ1 ⟨i, hi⟩ I1 hI1 => ?_
 ·simp +decide -implicitDefEqProofs (maxSteps := 4000000) only [go_sem, spSu]
 ·by_cases hlt : (i : Int) < p.length
  rotate_left
  ·simp +decide -implicitDefEqProofs (maxSteps := 4000000) only [go_sem, spSu, hlt]
   refine hQ1 _ _ ?_
   simp +decide -implicitDefEqProofs (maxSteps := 4000000) only [go_sem, spSu]
  obtain ⟨r, hr⟩ : ∃ r, p[i]? = some r := ⟨_, List.getElem?_eq_getElem (by omega)⟩
  obtain ⟨q, hq⟩ : ∃ q, A[i]? = some q := ⟨_, List.getElem?_eq_getElem (by omega)⟩
  obtain ⟨t, ht⟩ : ∃ t, rs[i]? = some t := ⟨_, List.getElem?_eq_getElem (by omega)⟩
  obtain ⟨t2, ht2⟩ : ∃ t, ps[i]? = some t := ⟨_, List.getElem?_eq_getElem (by omega)⟩
  obtain ⟨g1, rfl⟩ := hrs i r t hr ht
  obtain ⟨g2, rfl⟩ := has i q t2 hq ht2
  have d1 := tv_at ht
  have d2 := tv_at ht2
  have er : rowA p i = r := by unfold rowA; rw [List.getD_eq_getElem?_getD, hr]; rfl
  have eq : rowA A i = q := by unfold rowA; rw [List.getD_eq_getElem?_getD, hq]; rfl
  have hql := shp_rowl hsh i
  rw [er, eq] at hql
  have hrow := hok.2.1 i (by omega)
  rw [er] at hrow
  have hk1 : IntKind.i64.wrap ((i : Int) + 1) = ((i + 1 : Nat) : Int) := by rw [wrap_in (by omega) (by omega)]; omega
  simp +decide -implicitDefEqProofs (maxSteps := 4000000) only [go_sem, spSu, hlt]
  refine pwpC_loopU (A := { k : Nat // k ≤ r.length }) [0, 3, 4, 6] (fun k => [(7, .t (.int .i64 k.1))]) (fun _ => []) (fun k => r.length - k.1) ⟨0, by omega⟩ (by decide) (fun _ => by rfl) ?_ fun Q2 hQ2 ⟨k, hk⟩ I2 hI2 => ?_
  ·simp +decide -implicitDefEqProofs (maxSteps := 4000000) only [go_sem, spSu]
  ·by_cases hlt2 : (k : Int) < r.length
   rotate_left
   ·simp +decide -implicitDefEqProofs (maxSteps := 4000000) only [go_sem, spSu, hlt, d1, hlt2, Nat.mul_one]
    refine hQ2 _ _ ?_
    simp +decide -implicitDefEqProofs (maxSteps := 4000000) only [go_sem, spSu]
    refine hI1 _ ⟨i + 1, by omega⟩ (by simp only; omega) ?_
    simp +decide -implicitDefEqProofs (maxSteps := 4000000) only [go_sem, spSu, hk1]
   obtain ⟨x, hx⟩ : ∃ x, r[k]? = some x := ⟨_, List.getElem?_eq_getElem (by omega)⟩
   obtain ⟨y, hy⟩ : ∃ y, q[k]? = some y := ⟨_, List.getElem?_eq_getElem (by omega)⟩
   have dx := txs_at hx
   have dy := txs_at hy
   have ex : entA r k = x := by unfold entA; rw [List.getD_eq_getElem?_getD, hx]; rfl
   have ey : entA q k = y := by unfold entA; rw [List.getD_eq_getElem?_getD, hy]; rfl
   have hszy := shp_size hsh i k
   rw [er, eq, ex, ey] at hszy
   have hs5 := hok.2.2 i k (by omega) (by rw [er]; omega)
   rw [er, ex] at hs5
   have hk5 : (k : Int) < 5 := by omega
   have hkq : (k : Int) < q.length := by omega
   have hk2 : IntKind.i64.wrap ((k : Int) + 1) = ((k + 1 : Nat) : Int) := by rw [wrap_in (by omega) (by omega)]; omega
   simp +decide -implicitDefEqProofs (maxSteps := 4000000) only [go_sem, spSu, hlt, d1, hlt2, hk5, Nat.mul_one]
   refine pwpC_loopU (A := { j : Nat // j ≤ x.size }) [0, 3, 4, 6, 7] (fun j => [(8, .t (.int .i64 j.1))]) (fun _ => []) (fun j => x.size - j.1) ⟨0, by omega⟩ (by decide) (fun _ => by rfl) ?_ fun Q3 hQ3 ⟨j, hj⟩ I3 hI3 => ?_
   ·simp +decide -implicitDefEqProofs (maxSteps := 4000000) only [go_sem, spSu]
   ·by_cases hlt3 : (j : Int) < x.size
    rotate_left
    ·simp +decide -implicitDefEqProofs (maxSteps := 4000000) only [go_sem, spSu, hlt, d1, hlt2, dx, hlt3, Nat.mul_one]
     refine hQ3 _ _ ?_
     simp +decide -implicitDefEqProofs (maxSteps := 4000000) only [go_sem, spSu]
     refine hI2 _ ⟨k + 1, by omega⟩ (by simp only; omega) ?_
     simp +decide -implicitDefEqProofs (maxSteps := 4000000) only [go_sem, spSu, hk2]
    have hj5 : (j : Int) < 5 := by omega
    have hk3 : IntKind.i64.wrap ((j : Int) + 1) = ((j + 1 : Nat) : Int) := by rw [wrap_in (by omega) (by omega)]; omega
    obtain ⟨u, hu⟩ : ∃ u, x.data.getD j 0 = u := ⟨_, rfl⟩
    have hin : inP p (i, k, j) := ⟨by simp only; omega, by simp only; rw [er]; omega, by simp only; rw [er, ex]; omega⟩
    have hbp : byA p (i, k, j) = u := by
     unfold byA
     simp only
     rw [er, ex, ← hu]; simp
    by_cases hq63 : u = 63
    rotate_left
    ·have c1 : ((u.toNat : Int) != 63) = true := by
      have : ¬ (u.toNat : Int) = 63 := fun e => hq63 (UInt8.toNat_inj.1 (show u.toNat = 63 by omega))
      simpa using this
     simp +decide -implicitDefEqProofs (maxSteps := 4000000) only [go_sem, spSu, hlt, d1, hlt2, dx, hlt3, hj5, hu, c1, Nat.mul_one]
     refine hI3 _ ⟨j + 1, by omega⟩ (by simp only; omega) ?_
     simp +decide -implicitDefEqProofs (maxSteps := 4000000) only [go_sem, spSu, hk3]
    have c1 : ((u.toNat : Int) != 63) = false := by rw [hq63]; rfl
    have hm : (i, k, j) ∈ placesP p := mem_places_iff.2 ⟨hin, by rw [hbp, hq63]⟩
    obtain ⟨m, hm⟩ := List.mem_iff_getElem?.1 hm
    have hra := hrest m _ hm
    have hst := hset m _ hm
    have hd9 : ∀ g ∈ ys, 0 ≤ g.getD m 0 ∧ g.getD m 0 ≤ 9 := fun g hg => (hdg g hg).2 m
    obtain ⟨z, hz⟩ : ∃ z, y.data.getD j 0 = z := ⟨_, rfl⟩
    have hbA : byA A (i, k, j) = z := by
     unfold byA
     simp only
     rw [eq, ey, ← hz]; simp
    rw [hbA] at hra
    have hjy : (j : Int) < y.size := by omega
    have hsum := fun d => sumC_le ys m d
    have hall := sumC_all hd9
    have hnum := fun d => numC_le ys m d
    have hwl : ∀ d, d ≤ 10 → sumC ys m d ≤ 10 * ys.length := fun d hd => Nat.le_trans (hsum d) (Nat.mul_le_mul_right _ hd)
    simp +decide -implicitDefEqProofs (maxSteps := 4000000) only [go_sem, spSu, hlt, d1, hlt2, dx, hlt3, hj5, hu, c1, Nat.mul_one]
    refine pwpC_loopU (A := { d : Nat // d ≤ 10 }) [0, 3, 4, 6, 7, 8] (fun d => [(11, .t (.int .i64 d.1)), (9, .t (.int .i64 (numC ys m d.1))), (10, .t (.int .i64 (sumC ys m d.1)))]) (fun _ => []) (fun d => 10 - d.1) ⟨0, by omega⟩ (by decide) (fun _ => by rfl) ?_ fun Q4 hQ4 ⟨d, hd⟩ I4 hI4 => ?_
    ·simp +decide -implicitDefEqProofs (maxSteps := 4000000) only [go_sem, spSu, show numC ys m 0 = 0 from rfl, show sumC ys m 0 = 0 from rfl]
    ·by_cases hlt4 : (d : Int) < 10
     ·have hk4 : IntKind.i64.wrap ((d : Int) + 1) = ((d + 1 : Nat) : Int) := by rw [wrap_in (by omega) (by omega)]; omega
      have hw1 : IntKind.i64.wrap (48 + (d : Int)) = 48 + d := wrap_in (by omega) (by omega)
      have hw2 : IntKind.u8.wrap (48 + (d : Int)) = 48 + d := by rw [IntKind.wrap_u8]; omega
      have kw : rWithT [.sl rs p.length f, .agg [.int .i64 i, .int .i64 k, .int .i64 j], .int .u8 (48 + d)] = some (pgF (setP p (i, k, j) d)) := rWithT_of (a := (i, k, j)) hs hok hin (by omega)
      obtain ⟨X, n, e, kx, hc⟩ := hst (d : Int) (by omega) (by omega)
      have hn1 : numC ys m (d + 1) = numC ys m d + if cntD ys m (d : Int) = 0 then 0 else 1 := rfl
      have hs1 : sumC ys m (d + 1) = sumC ys m d + cntD ys m (d : Int) := rfl
      rcases hc with ⟨h0, he⟩ | ⟨h0, rfl, rfl⟩
      ·rw [if_pos h0, Nat.add_zero] at hn1
       rw [h0, Nat.add_zero] at hs1
       simp +decide -implicitDefEqProofs (maxSteps := 4000000) only [go_sem, spSu, hlt4, hw1, hw2, kw, kx, he]
       refine hI4 _ ⟨d + 1, by omega⟩ (by simp only; omega) ?_
       simp +decide -implicitDefEqProofs (maxSteps := 4000000) only [go_sem, spSu, hk4, hn1, hs1]
      ·rw [if_neg h0] at hn1
       have b1 := hnum (d + 1)
       have b2 := hwl (d + 1) (by omega)
       have hw3 : IntKind.i64.wrap ((numC ys m d : Int) + 1) = (numC ys m (d + 1) : Int) := by rw [wrap_in (by omega) (by omega)]; omega
       have hw4 : IntKind.i64.wrap ((sumC ys m d : Int) + (cntD ys m (d : Int) : Int)) = (sumC ys m (d + 1) : Int) := by rw [wrap_in (by omega) (by omega)]; omega
       by_cases hsure : sureB ys m = true
       ·rw [if_pos hsure] at hra
        have hdv := (sure_one hn hsure (d : Int)).1 h0
        rw [← hdv] at hra
        have hbn := byte_nat (d := (d : Int)) (by omega) (by omega)
        rw [← hra] at hbn
        have c2 : ((z.toNat : Int) != 63) = true := by rw [bne_iff_ne]; omega
        have c3 : ((z.toNat : Int) != 48 + (d : Int)) = false := by rw [hbn]; simp
        simp +decide -implicitDefEqProofs (maxSteps := 4000000) only [go_sem, spSu, hlt4, hw1, hw2, kw, kx, hw3, hw4, hlt, d2, hkq, dy, hjy, hz, c2, c3, Nat.mul_one]
        refine hI4 _ ⟨d + 1, by omega⟩ (by simp only; omega) ?_
        simp +decide -implicitDefEqProofs (maxSteps := 4000000) only [go_sem, spSu, hk4]
       ·rw [if_neg hsure] at hra
        have c2 : ((z.toNat : Int) != 63) = false := by rw [hra]; rfl
        simp +decide -implicitDefEqProofs (maxSteps := 4000000) only [go_sem, spSu, hlt4, hw1, hw2, kw, kx, hw3, hw4, hlt, d2, hkq, dy, hjy, hz, c2, Nat.mul_one]
        refine hI4 _ ⟨d + 1, by omega⟩ (by simp only; omega) ?_
        simp +decide -implicitDefEqProofs (maxSteps := 4000000) only [go_sem, spSu, hk4]
     ·have hde : d = 10 := by omega
      subst hde
      have c4 : ((ys.length : Int) != (ys.length : Int)) = false := by simp
      by_cases hsure : sureB ys m = true
      ·rw [if_pos hsure] at hra
       have hlast : 0 ≤ (lastY ys).getD m 0 ∧ (lastY ys).getD m 0 ≤ 9 := by
        have hmm : lastY ys ∈ ys := by
         unfold lastY
         rw [List.getLastD_eq_getLast?, List.getLast?_eq_some_getLast hn]
         exact List.getLast_mem hn
        exact hd9 _ hmm
       have hn10 := numC_one hlast.1 (fun d => sure_one hn hsure d) 10
       rw [if_pos (by omega)] at hn10
       have hbn := byte_nat hlast.1 (show (lastY ys).getD m 0 ≤ 15 by omega)
       rw [← hra] at hbn
       have c2 : ((z.toNat : Int) == 63) = false := by rw [beq_eq_false_iff_ne]; omega
       simp +decide -implicitDefEqProofs (maxSteps := 4000000) only [go_sem, spSu, hall]
       refine hQ4 _ _ ?_
       simp +decide -implicitDefEqProofs (maxSteps := 4000000) only [go_sem, spSu, hall, c4, hlt, d2, hkq, dy, hjy, hz, c2, hn10, Nat.mul_one]
       refine hI3 _ ⟨j + 1, by omega⟩ (by simp only; omega) ?_
       simp +decide -implicitDefEqProofs (maxSteps := 4000000) only [go_sem, spSu, hk3]
      ·rw [if_neg hsure] at hra
       have h2 := unsure_two hn hsure hd9
       have c2 : ((z.toNat : Int) == 63) = true := by rw [hra]; rfl
       have c3 : (numC ys m 10 : Int) > 1 := by omega
       simp +decide -implicitDefEqProofs (maxSteps := 4000000) only [go_sem, spSu, hall]
       refine hQ4 _ _ ?_
       simp +decide -implicitDefEqProofs (maxSteps := 4000000) only [go_sem, spSu, hall, c4, hlt, d2, hkq, dy, hjy, hz, c2, c3, Nat.mul_one]
       refine hI3 _ ⟨j + 1, by omega⟩ (by simp only; omega) ?_
       simp +decide -implicitDefEqProofs (maxSteps := 4000000) only [go_sem, spSu, hk3]
end Go.Proofs.YtdkboibnokipaaaDoor

namespace Go.Ow
open Go Go.RowKit Go.Pm
theorem askTo_spec {ys : List (List Int)} {L : List Pl} {n : Nat} (hne : ys ≠ []) (hd : ∀ y ∈ ys, digOk n y) : ∀ j, 0 < j → j ≤ L.length → ∃ b, b < j ∧ L[b]? = some (askTo ys L j).1 ∧ (askTo ys L j).2 = mostTo ys b 10 ∧ ∀ i, i < j → (askTo ys L j).2 ≤ mostTo ys i 10 ∧ (mostTo ys i 10 = (askTo ys L j).2 → b ≤ i)
 | j + 1, _, hj => by
  have hlj : L[j]? = some (L.getD j (0, 0, 0)) := by rw [List.getD_eq_getElem?_getD, List.getElem?_eq_getElem (by omega)]; rfl
  by_cases h0 : j = 0
  ·subst h0
   have e1 : askTo ys L (0 + 1) = (L.getD 0 (0, 0, 0), mostTo ys 0 10) := by rw [askTo, if_pos (.inl rfl)]
   rw [e1]
   exact ⟨0, by omega, hlj, rfl, fun i hi => by
    have : i = 0 := by omega
    subst this
    exact ⟨Nat.le_refl _, fun _ => Nat.le_refl _⟩⟩
  ·obtain ⟨b, hb, h1, h2, h3⟩ := askTo_spec (L := L) hne hd j (by omega) (by omega)
   have hp := askTo_pos (L := L) hne hd j (by omega)
   by_cases hc : mostTo ys j 10 < (askTo ys L j).2
   ·have e1 : askTo ys L (j + 1) = (L.getD j (0, 0, 0), mostTo ys j 10) := by rw [askTo, if_pos (.inr hc)]
    rw [e1]
    refine ⟨j, by omega, hlj, rfl, fun i hi => ?_⟩
    by_cases e : i = j
    ·subst e; exact ⟨Nat.le_refl _, fun _ => Nat.le_refl _⟩
    ·have := (h3 i (by omega)).1
     simp only
     exact ⟨by omega, fun h => by omega⟩
   ·have e1 : askTo ys L (j + 1) = askTo ys L j := by
     rw [askTo, if_neg]
     rintro (h | h)
     ·exact hp h
     ·exact hc h
    rw [e1]
    refine ⟨b, by omega, h1, h2, fun i hi => ?_⟩
    by_cases e : i = j
    ·subst e; exact ⟨by omega, fun _ => by omega⟩
    ·exact h3 i (by omega)
theorem pl_asym {a b : Pl} (h : plLt a b) : ¬ plLt b a := fun h2 => by unfold plLt at h h2; omega
theorem pl_irr (a : Pl) : ¬ plLt a a := fun h => plLt_ne h rfl
instance (a b : Pl) : Decidable (plLt a b) := inferInstanceAs (Decidable (_ ∨ _))
end Go.Ow
namespace Go.Proofs.YtdkboibnokipaaaDoor
open Go.RowKit Go.Pm Go.Ow
def plS (a : Pl) : TV := .sl [.int .i64 a.1, .int .i64 a.2.1, .int .i64 a.2.2] 3 true
theorem rBefore_c (a b : Pl) : PCalls Tryd.prog 40 [plS a, plS b] (.bool (decide (plLt a b))) := by
 obtain ⟨R, hR⟩ : ∃ R, decide (plLt a b) = R := ⟨_, rfl⟩
 rw [hR]
 obtain ⟨a1, a2, a3⟩ := a
 obtain ⟨b1, b2, b3⟩ := b
 have hT : plLt (a1, a2, a3) (b1, b2, b3) → R = true := fun h => by rw [← hR, decide_eq_true h]
 have hF : ¬ plLt (a1, a2, a3) (b1, b2, b3) → R = false := fun h => by rw [← hR, decide_eq_false h]
 unfold plLt at hT hF
 simp only at hT hF
 have w1 : IntKind.i64.wrap 1 = 1 := rfl
 have w2 : IntKind.i64.wrap 2 = 2 := rfl
 have w3 : IntKind.i64.wrap 3 = 3 := rfl
 refine pcalls_by Tryd.mixes noSpec_ok (fn := Tryd.f40) Tryd.func40 rfl (by kernel_rfl) (by show 2 ≤ _; decide) ?_
 simp +decide -implicitDefEqProofs (maxSteps := 4000000) only [go_sem, Tryd.f40, plS]
 refine pwpC_loopU (A := { k : Nat // k ≤ 3 ∧ (0 < k → a1 = b1) ∧ (1 < k → a2 = b2) ∧ (2 < k → a3 = b3) }) [0, 1] (fun k => [(5, .t (.int .i64 k.1))]) (fun _ => []) (fun k => 3 - k.1) ⟨0, by omega⟩ (by decide) (fun _ => by rfl) ?_ fun Q1 hQ1 ⟨k, hk, e1, e2, e3⟩ I1 hI1 => ?_
 ·simp +decide -implicitDefEqProofs (maxSteps := 4000000) only [go_sem]
 ·rcases (by omega : k = 0 ∨ k = 1 ∨ k = 2 ∨ k = 3) with rfl | rfl | rfl | rfl
  ·by_cases h1 : (a1 : Int) < b1
   ·have hR1 := hT (.inl (by omega))
    simp +decide -implicitDefEqProofs (maxSteps := 4000000) only [go_sem, h1]
    refine hQ1 _ _ ?_
    simp +decide -implicitDefEqProofs (maxSteps := 4000000) only [go_sem, hR1]
   ·by_cases h2 : (a1 : Int) > b1
    ·have hR1 := hF (by omega)
     simp +decide -implicitDefEqProofs (maxSteps := 4000000) only [go_sem, h1, h2]
     refine hQ1 _ _ ?_
     simp +decide -implicitDefEqProofs (maxSteps := 4000000) only [go_sem, hR1]
    ·simp +decide -implicitDefEqProofs (maxSteps := 4000000) only [go_sem, h1, h2]
     refine hI1 _ ⟨1, by omega, fun _ => by omega, fun h => by omega, fun h => by omega⟩ (by simp only; omega) ?_
     simp +decide -implicitDefEqProofs (maxSteps := 4000000) only [go_sem, w1]
  ·have e1 := e1 (by omega)
   by_cases h1 : (a2 : Int) < b2
   ·have hR1 := hT (.inr ⟨e1, .inl (by omega)⟩)
    simp +decide -implicitDefEqProofs (maxSteps := 4000000) only [go_sem, h1]
    refine hQ1 _ _ ?_
    simp +decide -implicitDefEqProofs (maxSteps := 4000000) only [go_sem, hR1]
   ·by_cases h2 : (a2 : Int) > b2
    ·have hR1 := hF (by omega)
     simp +decide -implicitDefEqProofs (maxSteps := 4000000) only [go_sem, h1, h2]
     refine hQ1 _ _ ?_
     simp +decide -implicitDefEqProofs (maxSteps := 4000000) only [go_sem, hR1]
    ·simp +decide -implicitDefEqProofs (maxSteps := 4000000) only [go_sem, h1, h2]
     refine hI1 _ ⟨2, by omega, fun _ => e1, fun _ => by omega, fun h => by omega⟩ (by simp only; omega) ?_
     simp +decide -implicitDefEqProofs (maxSteps := 4000000) only [go_sem, w2]
  ·have e1 := e1 (by omega)
   have e2 := e2 (by omega)
   by_cases h1 : (a3 : Int) < b3
   ·have hR1 := hT (.inr ⟨e1, .inr ⟨e2, by omega⟩⟩)
    simp +decide -implicitDefEqProofs (maxSteps := 4000000) only [go_sem, h1]
    refine hQ1 _ _ ?_
    simp +decide -implicitDefEqProofs (maxSteps := 4000000) only [go_sem, hR1]
   ·by_cases h2 : (a3 : Int) > b3
    ·have hR1 := hF (by omega)
     simp +decide -implicitDefEqProofs (maxSteps := 4000000) only [go_sem, h1, h2]
     refine hQ1 _ _ ?_
     simp +decide -implicitDefEqProofs (maxSteps := 4000000) only [go_sem, hR1]
    ·simp +decide -implicitDefEqProofs (maxSteps := 4000000) only [go_sem, h1, h2]
     refine hI1 _ ⟨3, by omega, fun _ => e1, fun _ => e2, fun _ => by omega⟩ (by simp only; omega) ?_
     simp +decide -implicitDefEqProofs (maxSteps := 4000000) only [go_sem, w3]
  ·have e1 := e1 (by omega)
   have e2 := e2 (by omega)
   have e3 := e3 (by omega)
   have hR1 := hF (by omega)
   simp +decide -implicitDefEqProofs (maxSteps := 4000000) only [go_sem]
   refine hQ1 _ _ ?_
   simp +decide -implicitDefEqProofs (maxSteps := 4000000) only [go_sem, hR1]
def plI (x y z : Int) : Pl := (x.toNat, y.toNat, z.toNat)
open Classical in
noncomputable def rLostT (s : TV) (p : Pg) : List TV → Option TV
 | [t, .agg [.int .i64 x, .int .i64 y, .int .i64 z]] => if t = s ∧ 0 ≤ x ∧ 0 ≤ y ∧ 0 ≤ z ∧ inP p (plI x y z) then some (.bool (decide (byA p (plI x y z) = 63))) else none
 | _ => none
open Classical in
theorem rLostT_ok {s : TV} {p : Pg} (hs : pgR s p) (hok : shpOk p) : ∀ a r, rLostT s p a = some r → PCalls Tryd.prog 38 a r := by
 intro a r h
 unfold rLostT at h
 split at h
 ·rename_i t x y z
  split at h
  ·rename_i hc
   obtain ⟨rfl, hx, hy, hz, hin⟩ := hc
   cases h
   have := rLost9_c hs hok hin
   unfold plI at this ⊢
   simp only at this
   rw [show ((x.toNat : Nat) : Int) = x by omega, show ((y.toNat : Nat) : Int) = y by omega, show ((z.toNat : Nat) : Int) = z by omega] at this
   exact this
  ·cases h
 ·cases h
open Classical in
theorem rLostT_of (s : TV) {p : Pg} {a : Pl} (ha : inP p a) : rLostT s p [s, .agg [.int .i64 a.1, .int .i64 a.2.1, .int .i64 a.2.2]] = some (.bool (decide (byA p a = 63))) := by
 have e : plI a.1 a.2.1 a.2.2 = a := rfl
 show (if s = s ∧ (0 : Int) ≤ a.1 ∧ (0 : Int) ≤ a.2.1 ∧ (0 : Int) ≤ a.2.2 ∧ inP p (plI a.1 a.2.1 a.2.2) then some (TV.bool (decide (byA p (plI a.1 a.2.1 a.2.2) = 63))) else none) = _
 rw [e, if_pos ⟨rfl, by omega, by omega, by omega, ha⟩]
open Classical in
noncomputable def rMostT (s : TV) (p : Pg) : List TV → Option TV
 | [t, pl] => if h : ∃ x : Nat × Pl, t = s ∧ pl = plT x.2 ∧ (placesP p)[x.1]? = some x.2 then some (.int .i64 (mostTo (readG p) (Classical.choose h).1 10)) else none
 | _ => none
open Classical in
theorem rMostT_ok {s : TV} {p : Pg} (hs : pgR s p) (hv : validB p = true) : ∀ a r, rMostT s p a = some r → PCalls Tryd.prog 39 a r := by
 intro a r h
 unfold rMostT at h
 split at h
 ·split at h
  ·rename_i hx
   cases h
   have hc := Classical.choose_spec hx
   obtain ⟨x, hxe⟩ : ∃ x, Classical.choose hx = x := ⟨_, rfl⟩
   rw [hxe] at hc ⊢
   obtain ⟨rfl, rfl, h3⟩ := hc
   exact rMost_c hs hv h3
  ·cases h
 ·cases h
theorem nodup_idx {L : List Pl} (hn : L.Nodup) {i j : Nat} {a : Pl} (h1 : L[i]? = some a) (h2 : L[j]? = some a) : i = j := by
 have hp := List.pairwise_iff_getElem.1 hn
 obtain ⟨j1, j2⟩ := List.getElem?_eq_some_iff.1 h1
 obtain ⟨k1, k2⟩ := List.getElem?_eq_some_iff.1 h2
 rcases Nat.lt_trichotomy i j with hl | hl | hl
 ·exact absurd (j2.trans k2.symm) (hp i j j1 k1 hl)
 ·exact hl
 ·exact absurd (k2.trans j2.symm) (hp j i k1 j1 hl)
open Classical in
theorem rMostT_of (s : TV) {p : Pg} {j : Nat} {a : Pl} (ha : (placesP p)[j]? = some a) : rMostT s p [s, .agg [.int .i64 a.1, .int .i64 a.2.1, .int .i64 a.2.2]] = some (.int .i64 (mostTo (readG p) j 10)) := by
 have h : ∃ x : Nat × Pl, s = s ∧ plT a = plT x.2 ∧ (placesP p)[x.1]? = some x.2 := ⟨(j, a), rfl, rfl, ha⟩
 show (if h : ∃ x : Nat × Pl, s = s ∧ plT a = plT x.2 ∧ (placesP p)[x.1]? = some x.2 then some (TV.int .i64 (mostTo (readG p) (Classical.choose h).1 10)) else none) = _
 rw [dif_pos h]
 have hc := Classical.choose_spec h
 have e := plT_inj hc.2.1
 have h3 := hc.2.2
 rw [← e] at h3
 rw [nodup_idx (places_nodup p) h3 ha]
noncomputable def rfBefore : List TV → Option TV
 | [.sl [.int .i64 a, .int .i64 b, .int .i64 c] 3 true, .sl [.int .i64 d, .int .i64 e, .int .i64 f] 3 true] => if 0 ≤ a ∧ 0 ≤ b ∧ 0 ≤ c ∧ 0 ≤ d ∧ 0 ≤ e ∧ 0 ≤ f then some (.bool (decide (plLt (plI a b c) (plI d e f)))) else none
 | _ => none
theorem rfBefore_ok : ∀ xs r, rfBefore xs = some r → PCalls Tryd.prog 40 xs r := by
 intro xs r h
 unfold rfBefore at h
 split at h
 ·rename_i a b c d e f
  split at h
  ·rename_i hc
   obtain ⟨h1, h2, h3, h4, h5, h6⟩ := hc
   cases h
   have := rBefore_c (plI a b c) (plI d e f)
   unfold plS plI at this
   simp only at this
   rw [show ((a.toNat : Nat) : Int) = a by omega, show ((b.toNat : Nat) : Int) = b by omega, show ((c.toNat : Nat) : Int) = c by omega, show ((d.toNat : Nat) : Int) = d by omega, show ((e.toNat : Nat) : Int) = e by omega, show ((f.toNat : Nat) : Int) = f by omega] at this
   exact this
  ·cases h
 ·cases h
theorem rfBefore_of (a b : Pl) : rfBefore [.sl [.int .i64 a.1, .int .i64 a.2.1, .int .i64 a.2.2] 3 true, .sl [.int .i64 b.1, .int .i64 b.2.1, .int .i64 b.2.2] 3 true] = some (.bool (decide (plLt a b))) := by
 show (if (0 : Int) ≤ a.1 ∧ (0 : Int) ≤ a.2.1 ∧ (0 : Int) ≤ a.2.2 ∧ (0 : Int) ≤ b.1 ∧ (0 : Int) ≤ b.2.1 ∧ (0 : Int) ≤ b.2.2 then some (TV.bool (decide (plLt (plI a.1 a.2.1 a.2.2) (plI b.1 b.2.1 b.2.2)))) else none) = _
 rw [if_pos ⟨by omega, by omega, by omega, by omega, by omega, by omega⟩]
 rfl
noncomputable def spAk (s T : TV) (p : Pg) : Pm.Spec := (((((((noSpec.one 33 rfMod).one 19 (oneP [s] T)).one 14 wkRestT).one 17 wkCheckT).one 38 (rLostT s p)).one 39 (rMostT s p)).one 40 rfBefore).one 21 (oneP [] (.bool true))
theorem WreckAsked_c {s : TV} {p : Pg} (hs : pgR s p) (n0 n1 n2 : Int) : PCalls Tryd.prog 8 [s, .agg [.int .i64 n0, .int .i64 n1, .int .i64 n2]] (.bool true) := by
 have kr := wkRestT_of hs
 have kc := wkCheckT_of hs
 by_cases hv : validB p = true
 rotate_left
 ·rw [if_neg hv] at kr kc
  have hsp : SpecOk Tryd.prog ((((noSpec.one 19 (oneP [s] (.tup [.agg [.int .i64 0, .int .i64 0, .int .i64 0], .int .i64 0, .int .i64 90]))).one 14 wkRestT).one 17 wkCheckT).one 21 (oneP [] (.bool true))) := Spec.one_ok (oneP_ok oWorks_c) (Spec.one_ok wkCheckT_ok (Spec.one_ok wkRestT_ok (Spec.one_ok (oneP_ok (wAskN_c hs (by simpa using hv))) noSpec_ok)))
  refine pcalls_by Tryd.mixes (Spec.gdt_ok hsp) (fn := Tryd.f8) Tryd.func8 rfl (by kernel_rfl) (by show 2 ≤ _; decide) ?_
  simp +decide -implicitDefEqProofs (maxSteps := 4000000) only [go_sem, Tryd.f8, kr]
 rw [if_pos hv] at kr kc
 have hok := (valid_iff.1 hv).1
 have hA := wAsk_c hs hv
 have hsp : ∀ T, PCalls Tryd.prog 19 [s] T → SpecOk Tryd.prog (spAk s T p).gdt := fun T hT => Spec.gdt_ok (Spec.one_ok (oneP_ok oWorks_c) (Spec.one_ok rfBefore_ok (Spec.one_ok (rMostT_ok hs hv) (Spec.one_ok (rLostT_ok hs hok) (Spec.one_ok wkCheckT_ok (Spec.one_ok wkRestT_ok (Spec.one_ok (oneP_ok hT) (Spec.one_ok rfMod_ok noSpec_ok))))))))
 unfold restT at kr
 unfold askT at hA
 by_cases hn : (readG p).length = 0
 ·have hn' : readG p = [] := List.length_eq_zero_iff.1 hn
  rw [if_pos hn] at hA
  rw [if_pos hn'] at kr
  refine pcalls_by Tryd.mixes (hsp _ hA) (fn := Tryd.f8) Tryd.func8 rfl (by kernel_rfl) (by show 2 ≤ _; decide) ?_
  simp +decide -implicitDefEqProofs (maxSteps := 4000000) only [go_sem, Tryd.f8, spAk, kr]
 have hn' : readG p ≠ [] := fun e => hn (by rw [e]; rfl)
 rw [if_neg hn] at hA
 rw [if_neg hn'] at kr
 by_cases h1 : (readG p).length = 1
 ·rw [if_pos h1] at hA
  rw [h1] at kr
  refine pcalls_by Tryd.mixes (hsp _ hA) (fn := Tryd.f8) Tryd.func8 rfl (by kernel_rfl) (by show 2 ≤ _; decide) ?_
  simp +decide -implicitDefEqProofs (maxSteps := 4000000) only [go_sem, Tryd.f8, spAk, kr]
 rw [if_neg h1] at hA
 have hsz := readG_size (valid_iff.1 hv).2.2
 have hdg := fun y (hy : y ∈ readG p) => readG_dig hy
 have hL0 : (placesP p).length ≠ 0 := fun e => by have := read_nil (List.length_eq_zero_iff.1 e); omega
 obtain ⟨b, hb1, hb2, hb3, hb4⟩ := askTo_spec (L := placesP p) hn' hdg (placesP p).length (by omega) (Nat.le_refl _)
 have hmle := mostTo_le (readG p) b 10
 have hmpos := mostTo_pos (k := b) hn' hdg
 obtain ⟨⟨q, left⟩, hql⟩ : ∃ z, askTo (readG p) (placesP p) (placesP p).length = z := ⟨_, rfl⟩
 rw [hql] at hA hb2 hb3 hb4
 simp only at hA hb2 hb3 hb4
 have hqm := mem_places_iff.1 (List.mem_of_getElem? hb2)
 have kl := rLostT_of s hqm.1
 rw [decide_eq_true hqm.2] at kl
 have km := rMostT_of s hb2
 rw [← hb3] at km
 unfold plT plC at hA
 obtain ⟨N, hN⟩ : ∃ N, (readG p).length = N := ⟨_, rfl⟩
 rw [hN] at kr hn h1 hsz hmle
 have c1 : ¬ (N : Int) < 2 := by omega
 have c2 : ¬ (left : Int) < 1 := by omega
 have c3 : ¬ (left : Int) > N := by omega
 have c4 : ((left : Int) != (left : Int)) = false := by simp
 obtain ⟨rs, f, rfl, hrl, hrs⟩ := page_rows2 hs hok
 have hpl := hok.1
 have hmx : max (1 : Int) (p.length : Int) = p.length := by omega
 have m0 : (0 : Int) < p.length := by omega
 have m0' : (p.length : Int) ≤ 9223372036854775807 := by omega
 have e0 := Int.emod_nonneg n0 (show (p.length : Int) ≠ 0 by omega)
 have e0' := Int.emod_lt_of_pos n0 m0
 obtain ⟨i, hi⟩ : ∃ i : Nat, n0 % (p.length : Int) = (i : Int) := ⟨(n0 % (p.length : Int)).toNat, by omega⟩
 have z0 : ((p.length : Int) == 0) = false := by rw [beq_eq_false_iff_ne]; omega
 have bi : (i : Int) < p.length := by omega
 obtain ⟨r, hr⟩ : ∃ r, p[i]? = some r := ⟨_, List.getElem?_eq_getElem (by omega)⟩
 obtain ⟨t, ht⟩ : ∃ t, rs[i]? = some t := ⟨_, List.getElem?_eq_getElem (by omega)⟩
 obtain ⟨g, rfl⟩ := hrs i r t hr ht
 have d1 := tv_at ht
 have er : rowA p i = r := by unfold rowA; rw [List.getD_eq_getElem?_getD, hr]; rfl
 have hrow := hok.2.1 i (by omega)
 rw [er] at hrow
 have m1 : (0 : Int) < r.length := by omega
 have m1' : (r.length : Int) ≤ 9223372036854775807 := by omega
 have e1 := Int.emod_nonneg n1 (show (r.length : Int) ≠ 0 by omega)
 have e1' := Int.emod_lt_of_pos n1 m1
 obtain ⟨k, hk⟩ : ∃ k : Nat, n1 % (r.length : Int) = (k : Int) := ⟨(n1 % (r.length : Int)).toNat, by omega⟩
 have z1 : ((r.length : Int) == 0) = false := by rw [beq_eq_false_iff_ne]; omega
 have bk : (k : Int) < r.length := by omega
 obtain ⟨x, hx⟩ : ∃ x, r[k]? = some x := ⟨_, List.getElem?_eq_getElem (by omega)⟩
 have dx := txs_at hx
 have ex : entA r k = x := by unfold entA; rw [List.getD_eq_getElem?_getD, hx]; rfl
 have hxs := hok.2.2 i k (by omega) (by rw [er]; omega)
 rw [er, ex] at hxs
 have m2 : (0 : Int) < x.size := by omega
 have m2' : (x.size : Int) ≤ 9223372036854775807 := by omega
 have e2 := Int.emod_nonneg n2 (show (x.size : Int) ≠ 0 by omega)
 have e2' := Int.emod_lt_of_pos n2 m2
 obtain ⟨j, hj⟩ : ∃ j : Nat, n2 % (x.size : Int) = (j : Int) := ⟨(n2 % (x.size : Int)).toNat, by omega⟩
 have z2 : ((x.size : Int) == 0) = false := by rw [beq_eq_false_iff_ne]; omega
 have hin : inP p (i, k, j) := ⟨by simp only; omega, by simp only; rw [er]; omega, by simp only; rw [er, ex]; omega⟩
 have ko : rLostT (.sl rs p.length f) p [.sl rs p.length f, .agg [.int .i64 i, .int .i64 k, .int .i64 j]] = some (.bool (decide (byA p (i, k, j) = 63))) := rLostT_of _ (a := (i, k, j)) hin
 by_cases h63 : byA p (i, k, j) = 63
 rotate_left
 ·rw [decide_eq_false h63] at ko
  refine pcalls_by Tryd.mixes (hsp _ hA) (fn := Tryd.f8) Tryd.func8 rfl (by kernel_rfl) (by show 2 ≤ _; decide) ?_
  simp +decide -implicitDefEqProofs (maxSteps := 4000000) only [go_sem, Tryd.f8, spAk, kr, kc, c1, c2, c3, c4, kl, km, hmx, m0, m0', hi, z0, bi, d1, m1, m1', hk, z1, bk, dx, m2, m2', hj, z2, ko, Nat.mul_one]
 rw [decide_eq_true h63] at ko
 obtain ⟨j2, hj2⟩ := List.mem_iff_getElem?.1 (mem_places_iff.2 ⟨hin, h63⟩)
 have kn : rMostT (.sl rs p.length f) p [.sl rs p.length f, .agg [.int .i64 i, .int .i64 k, .int .i64 j]] = some (.int .i64 (mostTo (readG p) j2 10)) := rMostT_of _ (a := (i, k, j)) hj2
 have kb : rfBefore [.sl [.int .i64 i, .int .i64 k, .int .i64 j] 3 true, .sl [.int .i64 q.1, .int .i64 q.2.1, .int .i64 q.2.2] 3 true] = some (.bool (decide (plLt (i, k, j) q))) := rfBefore_of (i, k, j) q
 have h4 := hb4 j2 (List.getElem?_eq_some_iff.1 hj2).1
 obtain ⟨mj, hmj⟩ : ∃ m, mostTo (readG p) j2 10 = m := ⟨_, rfl⟩
 rw [hmj] at kn h4
 by_cases hgt : (mj : Int) > left
 ·refine pcalls_by Tryd.mixes (hsp _ hA) (fn := Tryd.f8) Tryd.func8 rfl (by kernel_rfl) (by show 2 ≤ _; decide) ?_
  simp +decide -implicitDefEqProofs (maxSteps := 4000000) only [go_sem, Tryd.f8, spAk, kr, kc, c1, c2, c3, c4, kl, km, hmx, m0, m0', hi, z0, bi, d1, m1, m1', hk, z1, bk, dx, m2, m2', hj, z2, ko, kn, kb, hgt, Nat.mul_one]
 ·have heq : mj = left := by omega
  have hbj := h4.2 heq
  have hnl : ¬ plLt (i, k, j) q := by
   by_cases e : b = j2
   ·subst e
    rw [hb2] at hj2
    cases hj2
    exact pl_irr _
   ·exact pl_asym (pw_get (places_pw p) hb2 hj2 (by omega))
  have c5 : ((mj : Int) == (left : Int)) = true := by rw [heq]; simp
  rw [decide_eq_false hnl] at kb
  refine pcalls_by Tryd.mixes (hsp _ hA) (fn := Tryd.f8) Tryd.func8 rfl (by kernel_rfl) (by show 2 ≤ _; decide) ?_
  simp +decide -implicitDefEqProofs (maxSteps := 4000000) only [go_sem, Tryd.f8, spAk, kr, kc, c1, c2, c3, c4, kl, km, hmx, m0, m0', hi, z0, bi, d1, m1, m1', hk, z1, bk, dx, m2, m2', hj, z2, ko, kn, kb, hgt, c5, Nat.mul_one]
end Go.Proofs.YtdkboibnokipaaaDoor
