/- What the claim leans on, text 6. -/
import Derived.Test.YtdkboibnokipaaaDoorTie
import Derived.Test.YtdkboibnokipaaaDoorCards
import Derived.LaidMore
import Derived.SevenTiedAt
import Derived.OpenShut
import Derived.Lay
import Derived.Test.YtdkboibnokipaaaDoorC5
set_option linter.unusedSimpArgs false
set_option linter.unusedVariables false
set_option maxRecDepth 100000
set_option maxHeartbeats 16000000

namespace Go.Ow
open Go Go.RowKit Go.Pm
open Classical in
noncomputable def atP (s0 : TV) (g : Nat → Option TV) : List TV → Option TV
 | [s, .int .i64 i] => if s = s0 ∧ 0 ≤ i then g i.toNat else none
 | _ => none
@[go_sem] theorem atP_eq (s0 : TV) (g : Nat → Option TV) (k : Nat) : atP s0 g [s0, .int .i64 k] = g k := by
 simp [atP]
theorem atP_ok {P : Program} {f : FuncId} {s0 : TV} {g : Nat → Option TV} (h : ∀ k v, g k = some v → PCalls P f [s0, .int .i64 k] v) : ∀ a r, atP s0 g a = some r → PCalls P f a r := by
 intro a r e
 unfold atP at e
 split at e
 ·split at e
  ·rename_i i hc
   obtain ⟨rfl, h0⟩ := hc
   have := h _ _ e
   rwa [Int.toNat_of_nonneg h0] at this
  ·cases e
 ·cases e
end Go.Ow
namespace Go.Proofs.YtdkboibnokipaaaDoor
open Go.RowKit Go.Pm Go.Ow
@[go_sem] theorem globP_kinds : globP 0 = .t (.cptr [.fn 163 [] [], .fn 164 [] [], .fn 160 [] [], .fn 165 [] []]) := rfl
theorem wr0 : IntKind.i64.wrap 0 = 0 := rfl
theorem wr1 : IntKind.i64.wrap 1 = 1 := rfl
theorem wr2 : IntKind.i64.wrap 2 = 2 := rfl
theorem wr3 : IntKind.i64.wrap 3 = 3 := rfl
def bkT (s : TV) (l : List WRec) : Prop := (s = .nilSl ∧ l = []) ∨ ∃ f, s = .sl (recL l) l.length f
noncomputable def spWh (l : List WRec) (f : Bool) : Pm.Spec := (((((spWa.one 68 wkIsNumber).one 163 (atP (.sl (recL l) l.length f) fun k => (l[k]?).map fun r => .bool (nameB r.by_ && (r.new == 0 && !metP (l.take k) r.num)))).one 164 (atP (.sl (recL l) l.length f) fun k => (l[k]?).map fun r => .bool (nameB r.by_ && (r.new == 0 && usedP l r.num k)))).one 160 (atP (.sl (recL l) l.length f) fun k => (l[k]?).map fun r => .bool (decide (r.by_.size = 0) && (inW r.new 1 99999 && (r.new != r.num && (!metP (l.take k) r.new && usedP l r.num k)))))).one 165 (atP (.sl (recL l) l.length f) fun k => (l[k]?).map fun r => .bool (decide (r.by_.size = 0) && (r.new == 0 && usedP l r.num k)))).gdt
theorem spWh_ok {l : List WRec} {f : Bool} (hl : l.length ≤ 40) : SpecOk Tryd.prog (spWh l f) := by
 refine Spec.gdt_ok (Spec.one_ok (atP_ok fun k v e => ?_) (Spec.one_ok (atP_ok fun k v e => ?_) (Spec.one_ok (atP_ok fun k v e => ?_) (Spec.one_ok (atP_ok fun k v e => ?_) (Spec.one_ok wkIsNumber_ok spWa_ok)))))
 all_goals
  cases hr : l[k]? with
  | none => rw [hr] at e; cases e
  | some r => rw [hr] at e; cases e; first | exact wLost_c f hr hl | exact wAgain_c f hr hl | exact wMended_c f hr hl | exact wMade_c f hr hl
theorem wCheckBook_c {s : TV} {l : List WRec} (hs : bkT s l) (hL : l.length ≤ 140737488355328) : PCalls Tryd.prog 28 [s] (.int .i64 (if bookB l then 0 else 92)) := by
 rcases hs with ⟨rfl, rfl⟩ | ⟨f, rfl⟩
 ·refine pcalls_by Tryd.mixes (spWh_ok (l := []) (f := true) (by decide)) (fn := Tryd.f28) Tryd.func28 rfl (by kernel_rfl) (by show 1 ≤ _; decide) ?_
  simp +decide -implicitDefEqProofs (maxSteps := 4000000) only [go_sem, Tryd.f28, spWh]
  refine pwpC_loopU (A := Unit) [0, 2, 3] (fun _ => [(4, .t (.int .i64 0)), (5, .t (.int .i64 0))]) (fun _ => []) (fun _ => 0) () (by decide) (fun _ => by rfl) ?_ fun Q1 hQ1 _ I1 hI1 => ?_
  ·simp +decide -implicitDefEqProofs (maxSteps := 4000000) only [go_sem]
  ·simp +decide -implicitDefEqProofs (maxSteps := 4000000) only [go_sem]
   refine hQ1 _ _ ?_
   have e : bookB [] = true := by decide
   simp +decide -implicitDefEqProofs (maxSteps := 4000000) only [go_sem, e]
 ·by_cases hl : l.length ≤ 40
  ·refine pcalls_by Tryd.mixes (spWh_ok (f := f) hl) (fn := Tryd.f28) Tryd.func28 rfl (by kernel_rfl) (by show 1 ≤ _; decide) ?_
   have h40 : (l.length : Int) ≤ 40 := by omega
   have eb : bookB l = okTo l l.length := by unfold bookB; rw [decide_eq_true hl, Bool.true_and]
   rw [eb]
   simp +decide -implicitDefEqProofs (maxSteps := 4000000) only [go_sem, Tryd.f28, spWh, h40]
   refine pwpC_loopU (A := { k : Nat // k ≤ l.length ∧ (okTo l k = false → okTo l l.length = false) }) [0, 2] (fun k => [(3, .t (.bool (okTo l k.1))), (4, .t (.int .i64 (dayB l k.1))), (5, .t (.int .i64 k.1))]) (fun _ => []) (fun k => l.length - k.1) ⟨0, Nat.zero_le _, fun h => by cases h⟩ (by decide) (fun _ => by rfl) ?_ fun Q1 hQ1 ⟨k, hk, hbad⟩ I1 hI1 => ?_
   ·simp +decide -implicitDefEqProofs (maxSteps := 4000000) only [go_sem, okTo, dayB]
   ·rcases Bool.eq_false_or_eq_true (okTo l k) with ho | ho
    rotate_left
    ·have hb := hbad ho
     simp +decide -implicitDefEqProofs (maxSteps := 4000000) only [go_sem, ho]
     refine hQ1 _ _ ?_
     simp +decide -implicitDefEqProofs (maxSteps := 4000000) only [go_sem, hb]
    ·by_cases hlt : (k : Int) < l.length
     ·obtain ⟨r, hr⟩ : ∃ r, l[k]? = some r := ⟨_, List.getElem?_eq_getElem (by omega)⟩
      have d1 := recL_at hr
      have hle : k * 5 + 5 ≤ (recL l).length := by rw [recL_len]; omega
      have hk1 := Go.Pm.wS (k := k) (by omega)
      have eo : okTo l (k + 1) = recP l k (dayB l k) r := by simp only [okTo, ho, hr, Bool.true_and]
      have ed : dayB l (k + 1) = r.day := by simp only [dayB, hr]
      have hnx : okTo l (k + 1) = false → okTo l l.length = false := fun e => by
       cases h : okTo l l.length with
       | false => rfl
       | true => rw [ok_less h (show k + 1 ≤ l.length by omega)] at e; cases e
      rw [eo] at hnx
      cases c1 : inW r.kind 1 4 with
      | false =>
       have er : recP l k (dayB l k) r = false := by unfold recP; rw [c1]; rfl
       simp +decide -implicitDefEqProofs (maxSteps := 4000000) only [go_sem, ho, hlt, d1, hle, recT, c1, hr]
       refine hI1 _ ⟨k + 1, by omega, by rw [eo]; exact hnx⟩ (by simp only; omega) ?_
       simp +decide -implicitDefEqProofs (maxSteps := 4000000) only [go_sem, eo, ed, er, hk1]
      | true =>
       cases c2 : inW r.day (dayB l k) 100000 with
       | false =>
        have er : recP l k (dayB l k) r = false := by unfold recP; rw [c1, c2]; rfl
        simp +decide -implicitDefEqProofs (maxSteps := 4000000) only [go_sem, ho, hlt, d1, hle, recT, c1, c2, hr]
        refine hI1 _ ⟨k + 1, by omega, by rw [eo]; exact hnx⟩ (by simp only; omega) ?_
        simp +decide -implicitDefEqProofs (maxSteps := 4000000) only [go_sem, eo, ed, er, hk1]
       | true =>
        cases c3 : inW r.num 1 99999 with
        | false =>
         have er : recP l k (dayB l k) r = false := by unfold recP; rw [c1, c2, c3]; rfl
         simp +decide -implicitDefEqProofs (maxSteps := 4000000) only [go_sem, ho, hlt, d1, hle, recT, c1, c2, c3, hr]
         refine hI1 _ ⟨k + 1, by omega, by rw [eo]; exact hnx⟩ (by simp only; omega) ?_
         simp +decide -implicitDefEqProofs (maxSteps := 4000000) only [go_sem, eo, ed, er, hk1]
        | true =>
         have er : recP l k (dayB l k) r = kindP l k r := by unfold recP; rw [c1, c2, c3]; rfl
         have hkd := inW_iff.1 c1
         have h4 : r.kind = 1 ∨ r.kind = 2 ∨ r.kind = 3 ∨ r.kind = 4 := by omega
         rcases h4 with h4 | h4 | h4 | h4
         ·have e2 : kindP l k r = (nameB r.by_ && (r.new == 0 && !metP (l.take k) r.num)) := by unfold kindP; rw [h4]; rfl
          rw [h4] at c1
          simp +decide -implicitDefEqProofs (maxSteps := 4000000) only [go_sem, ho, hlt, d1, hle, recT, h4, c1, c2, c3, hr, wr0, wr1, wr2, wr3]
          refine hI1 _ ⟨k + 1, by omega, by rw [eo]; exact hnx⟩ (by simp only; omega) ?_
          simp +decide -implicitDefEqProofs (maxSteps := 4000000) only [go_sem, eo, ed, er, e2, hk1]
         ·have e2 : kindP l k r = (nameB r.by_ && (r.new == 0 && usedP l r.num k)) := by unfold kindP; rw [h4]; rfl
          rw [h4] at c1
          simp +decide -implicitDefEqProofs (maxSteps := 4000000) only [go_sem, ho, hlt, d1, hle, recT, h4, c1, c2, c3, hr, wr0, wr1, wr2, wr3]
          refine hI1 _ ⟨k + 1, by omega, by rw [eo]; exact hnx⟩ (by simp only; omega) ?_
          simp +decide -implicitDefEqProofs (maxSteps := 4000000) only [go_sem, eo, ed, er, e2, hk1]
         ·have e2 : kindP l k r = (decide (r.by_.size = 0) && (inW r.new 1 99999 && (r.new != r.num && (!metP (l.take k) r.new && usedP l r.num k)))) := by unfold kindP; rw [h4]; rfl
          rw [h4] at c1
          simp +decide -implicitDefEqProofs (maxSteps := 4000000) only [go_sem, ho, hlt, d1, hle, recT, h4, c1, c2, c3, hr, wr0, wr1, wr2, wr3]
          refine hI1 _ ⟨k + 1, by omega, by rw [eo]; exact hnx⟩ (by simp only; omega) ?_
          simp +decide -implicitDefEqProofs (maxSteps := 4000000) only [go_sem, eo, ed, er, e2, hk1]
         ·have e2 : kindP l k r = (decide (r.by_.size = 0) && (r.new == 0 && usedP l r.num k)) := by unfold kindP; rw [h4]; rfl
          rw [h4] at c1
          simp +decide -implicitDefEqProofs (maxSteps := 4000000) only [go_sem, ho, hlt, d1, hle, recT, h4, c1, c2, c3, hr, wr0, wr1, wr2, wr3]
          refine hI1 _ ⟨k + 1, by omega, by rw [eo]; exact hnx⟩ (by simp only; omega) ?_
          simp +decide -implicitDefEqProofs (maxSteps := 4000000) only [go_sem, eo, ed, er, e2, hk1]
     ·have e : k = l.length := by omega
      subst e
      simp +decide -implicitDefEqProofs (maxSteps := 4000000) only [go_sem, ho, hlt]
      refine hQ1 _ _ ?_
      simp +decide -implicitDefEqProofs (maxSteps := 4000000) only [go_sem, ho]
  ·refine pcalls_by Tryd.mixes (spWh_ok (l := []) (f := true) (by decide)) (fn := Tryd.f28) Tryd.func28 rfl (by kernel_rfl) (by show 1 ≤ _; decide) ?_
   have h40 : ¬ (l.length : Int) ≤ 40 := by omega
   have eb : bookB l = false := by unfold bookB; rw [decide_eq_false hl, Bool.false_and]
   rw [eb]
   simp +decide -implicitDefEqProofs (maxSteps := 4000000) only [go_sem, Tryd.f28, spWh, h40]
   refine pwpC_loopU (A := Unit) [0, 2, 3] (fun _ => [(4, .t (.int .i64 0)), (5, .t (.int .i64 0))]) (fun _ => []) (fun _ => 0) () (by decide) (fun _ => by rfl) ?_ fun Q1 hQ1 _ I1 hI1 => ?_
   ·simp +decide -implicitDefEqProofs (maxSteps := 4000000) only [go_sem]
   ·simp +decide -implicitDefEqProofs (maxSteps := 4000000) only [go_sem]
    refine hQ1 _ _ ?_
    simp +decide -implicitDefEqProofs (maxSteps := 4000000) only [go_sem]
end Go.Proofs.YtdkboibnokipaaaDoor

namespace Go.Ow
open Go Go.RowKit Go.Pm
def fIxR (p : WRec → Bool) (l : List WRec) : Int := match l.findIdx? p with | some i => (i : Int) | none => -1
theorem fIxR_hit {p : WRec → Bool} {l : List WRec} {k : Nat} {x : WRec} (hno : ∀ (i : Nat) (y : WRec), i < k → l[i]? = some y → p y = false) (hx : l[k]? = some x) (hp : p x = true) : fIxR p l = k := by
 unfold fIxR
 have hk := (List.getElem?_eq_some_iff.1 hx).1
 have he := (List.getElem?_eq_some_iff.1 hx).2
 have : l.findIdx? p = some k := by
  rw [List.findIdx?_eq_some_iff_getElem]
  refine ⟨hk, by rw [he]; exact hp, fun j hj => ?_⟩
  have := hno j _ hj (List.getElem?_eq_getElem (by omega))
  rw [this]; decide
 rw [this]
theorem fIxR_none {p : WRec → Bool} {l : List WRec} (hno : ∀ (i : Nat) (y : WRec), i < l.length → l[i]? = some y → p y = false) : fIxR p l = -1 := by
 unfold fIxR
 have : l.findIdx? p = none := by
  rw [List.findIdx?_eq_none_iff]
  intro x hx
  obtain ⟨i, hi⟩ := List.mem_iff_getElem?.1 hx
  exact hno i x (List.getElem?_eq_some_iff.1 hi).1 hi
 rw [this]
noncomputable def wrP (caps : List TV) (p : WRec → Bool) : List TV → Option TV
 | .agg [.int .i64 a, .int .i64 b, .int .i64 c, .str s, .int .i64 d] :: cs => @ite _ (cs = caps) (Classical.propDecidable _) (some (.bool (p ⟨a, b, c, s, d⟩))) none
 | _ => none
theorem wrP_ok {P : Program} {f : FuncId} {caps : List TV} {p : WRec → Bool} (h : ∀ x, PCalls P f (.agg (recT x) :: caps) (.bool (p x))) : ∀ al r, wrP caps p al = some r → PCalls P f al r := by
 intro al r e
 unfold wrP at e
 split at e
 ·split at e
  ·rename_i hc; subst hc; cases e; exact h ⟨_, _, _, _, _⟩
  ·cases e
 ·cases e
@[go_sem] theorem wrP_eq (caps cs : List TV) (p : WRec → Bool) (a b c d : Int) (s : ByteArray) : wrP caps p (.agg [.int .i64 a, .int .i64 b, .int .i64 c, .str s, .int .i64 d] :: cs) = @ite _ (cs = caps) (Classical.propDecidable _) (some (.bool (p ⟨a, b, c, s, d⟩))) none := rfl
@[go_sem] theorem allT : ∀ cs : List TV, allO (List.map PV.toT (List.map PV.t cs)) = some cs
 | [] => rfl
 | c :: cs => by simp only [List.map_cons, allO, allT cs, PV.toT, Option.map_some]
theorem gotN_ix (l : List WRec) (n : Int) : fIxR (gotR n) l = match gotN l n with | some i => (i : Int) | none => -1 := rfl
end Go.Ow
namespace Go.Proofs.YtdkboibnokipaaaDoor
open Go.RowKit Go.Pm Go.Ow
theorem wFirst_c {fid : FuncId} {caps : List TV} {p : WRec → Bool} {l : List WRec} {s : TV} (hl : bkT s l) (hll : l.length ≤ 1000000) (hc : ∀ x, PCalls Tryd.prog fid (.agg (recT x) :: caps) (.bool (p x))) : PCalls Tryd.prog 95 [.fn fid [] caps, s] (.int .i64 (fIxR p l)) := by
 refine pcalls_by Tryd.mixes (Spec.one_ok (wrP_ok hc) noSpec_ok) (fn := Tryd.f95) Tryd.func95 rfl (by kernel_rfl) (by show 2 ≤ _; decide) ?_
 rcases hl with ⟨rfl, rfl⟩ | ⟨f, rfl⟩
 ·simp +decide -implicitDefEqProofs (maxSteps := 4000000) only [go_sem, Tryd.f95]
  refine pwpC_loopU (A := Unit) [0, 7, 8] (fun _ => [(9, .t (.int .i64 0))]) (fun _ => []) (fun _ => 0) () (by decide) (fun _ => by rfl) ?_ fun Q1 hQ1 _ I1 hI1 => ?_
  ·simp +decide -implicitDefEqProofs (maxSteps := 4000000) only [go_sem]
  ·simp +decide -implicitDefEqProofs (maxSteps := 4000000) only [go_sem]
   refine hQ1 _ _ ?_
   simp +decide -implicitDefEqProofs (maxSteps := 4000000) only [go_sem]
   first | done | rfl
 ·simp +decide -implicitDefEqProofs (maxSteps := 4000000) only [go_sem, Tryd.f95]
  have hlen := recL_len l
  refine pwpC_loopU (A := { k : Nat // k ≤ l.length ∧ ∀ (i : Nat) (y : WRec), i < k → l[i]? = some y → p y = false }) [0, 7, 8] (fun k => [(9, .t (.int .i64 k.1))]) (fun _ => []) (fun k => l.length - k.1) ⟨0, by omega, fun i y h => by omega⟩ (by decide) (fun _ => by rfl) ?_ fun Q1 hQ1 ⟨k, hk, hno⟩ I1 hI1 => ?_
  ·simp +decide -implicitDefEqProofs (maxSteps := 4000000) only [go_sem]
  ·by_cases hlt : (k : Int) < l.length
   ·obtain ⟨x, hx⟩ : ∃ r, l[k]? = some r := ⟨_, List.getElem?_eq_getElem (by omega)⟩
    have hd := recL_at hx
    have hc1 : IntKind.i64.wrap (k + 1) = ((k + 1 : Nat) : Int) := by rw [wrap_in (by omega) (by omega)]; omega
    have hle : k * 5 + 5 ≤ (recL l).length := by rw [hlen]; omega
    cases hb : p x with
    | true =>
     have e := fIxR_hit hno hx hb
     obtain ⟨a, b, c, d, g⟩ := x
     simp +decide -implicitDefEqProofs (maxSteps := 4000000) only [go_sem, hlt, hd, hb, hle, recT]
     refine hQ1 _ _ ?_
     simp +decide -implicitDefEqProofs (maxSteps := 4000000) only [go_sem, e]
    | false =>
     have hno' : ∀ (i : Nat) (y : WRec), i < k + 1 → l[i]? = some y → p y = false := fun i y hi hy => by
      by_cases e : i = k
      ·subst e; rw [hx] at hy; cases hy; exact hb
      ·exact hno i y (by omega) hy
     obtain ⟨a, b, c, d, g⟩ := x
     simp +decide -implicitDefEqProofs (maxSteps := 4000000) only [go_sem, hlt, hd, hb, hle, recT]
     refine hI1 _ ⟨k + 1, by omega, hno'⟩ (by simp only; omega) ?_
     simp +decide -implicitDefEqProofs (maxSteps := 4000000) only [go_sem, hc1]
   ·have hke : k = l.length := by omega
    subst hke
    have e : fIxR p l = -1 := fIxR_none hno
    simp +decide -implicitDefEqProofs (maxSteps := 4000000) only [go_sem, hlt]
    refine hQ1 _ _ ?_
    simp +decide -implicitDefEqProofs (maxSteps := 4000000) only [go_sem, e]
theorem wGot1_c (n : Int) (r : WRec) : PCalls Tryd.prog 124 [.agg (recT r), .cptr [.int .i64 n]] (.bool (gotR n r)) := by
 refine pcalls_by Tryd.mixes (Spec.gdt_ok noSpec_ok) (fn := Tryd.f124) Tryd.func124 rfl (by kernel_rfl) (by show 2 ≤ _; decide) ?_
 unfold gotR
 cases c1 : (r.kind == 1) with
 | true =>
  cases c2 : (r.num == n) with
  | true => simp +decide -implicitDefEqProofs (maxSteps := 4000000) only [go_sem, Tryd.f124, recT, c1, c2]
  | false =>
   cases c3 : (r.kind == 3) with
   | true => simp +decide -implicitDefEqProofs (maxSteps := 4000000) only [go_sem, Tryd.f124, recT, c1, c2, c3]
   | false => simp +decide -implicitDefEqProofs (maxSteps := 4000000) only [go_sem, Tryd.f124, recT, c1, c2, c3]
 | false =>
  cases c3 : (r.kind == 3) with
  | true => simp +decide -implicitDefEqProofs (maxSteps := 4000000) only [go_sem, Tryd.f124, recT, c1, c3]
  | false => simp +decide -implicitDefEqProofs (maxSteps := 4000000) only [go_sem, Tryd.f124, recT, c1, c3]
theorem wGot_c {s : TV} {l : List WRec} (hs : bkT s l) (hl : l.length ≤ 1000000) (n : Int) : PCalls Tryd.prog 94 [s, .int .i64 n] (.int .i64 (fIxR (gotR n) l)) := by
 refine pcalls_by Tryd.mixes (Spec.frz_ok (Spec.one_ok (oneP_ok (wFirst_c hs hl (wGot1_c n))) noSpec_ok)) (fn := Tryd.f94) Tryd.func94 rfl (by kernel_rfl) (by show 2 ≤ _; decide) ?_
 simp +decide -implicitDefEqProofs (maxSteps := 4000000) only [go_sem, Tryd.f94, freezeW, freezeO, frzC, thawP, thawC]
theorem wBearer1_c (n d : Int) (r : WRec) : PCalls Tryd.prog 96 [.agg (recT r), .cptr [.int .i64 n], .cptr [.int .i64 d]] (.bool (goneD n d r)) := by
 refine pcalls_by Tryd.mixes (Spec.gdt_ok noSpec_ok) (fn := Tryd.f96) Tryd.func96 rfl (by kernel_rfl) (by show 3 ≤ _; decide) ?_
 unfold goneD
 cases c1 : (r.num == n) with
 | false => simp +decide -implicitDefEqProofs (maxSteps := 4000000) only [go_sem, Tryd.f96, recT, c1]
 | true =>
  by_cases c2 : r.day ≤ d
  ·cases c3 : (r.kind == 3) with
   | true => simp +decide -implicitDefEqProofs (maxSteps := 4000000) only [go_sem, Tryd.f96, recT, c1, c2, c3]
   | false => simp +decide -implicitDefEqProofs (maxSteps := 4000000) only [go_sem, Tryd.f96, recT, c1, c2, c3]
  ·simp +decide -implicitDefEqProofs (maxSteps := 4000000) only [go_sem, Tryd.f96, recT, c1, c2]
end Go.Proofs.YtdkboibnokipaaaDoor

namespace Go.Ow
open Go Go.RowKit Go.Pm
open Classical in
noncomputable def byP (s0 : TV) (g : Int → Option TV) : List TV → Option TV
 | [s, .int .i64 n] => if s = s0 then g n else none
 | _ => none
open Classical in
@[go_sem] theorem byP_eq (s0 s : TV) (g : Int → Option TV) (n : Int) : byP s0 g [s, .int .i64 n] = if s = s0 then g n else none := rfl
theorem byP_ok {P : Program} {f : FuncId} {s0 : TV} {g : Int → Option TV} (h : ∀ n v, g n = some v → PCalls P f [s0, .int .i64 n] v) : ∀ a r, byP s0 g a = some r → PCalls P f a r := by
 intro a r e
 unfold byP at e
 split at e
 ·split at e
  ·rename_i hc; subst hc; exact h _ _ e
  ·cases e
 ·cases e
def optI : Option Nat → Int
 | some i => i
 | none => -1
end Go.Ow
namespace Go.Proofs.YtdkboibnokipaaaDoor
open Go.RowKit Go.Pm Go.Ow
theorem wInstrument_c {l : List WRec} (f : Bool) (hl : l.length ≤ 40) (ho : okTo l l.length = true) {n : Int} {j0 i : Nat} (hj0 : gotN l n = some j0) (hi : cur l (j0 + 1) n = some i) : PCalls Tryd.prog 97 [.sl (recL l) l.length f, .int .i64 n] (.int .i64 i) := by
 refine pcalls_by Tryd.mixes (Spec.one_ok (byP_ok (s0 := .sl (recL l) l.length f) (g := fun n => some (.int .i64 (fIxR (gotR n) l))) fun n v e => by cases e; exact wGot_c (.inr ⟨f, rfl⟩) (by omega) n) noSpec_ok) (fn := Tryd.f97) Tryd.func97 rfl (by kernel_rfl) (by show 2 ≤ _; decide) ?_
 obtain ⟨r0, hr0, hg0⟩ := gotN_some hj0
 have e0 : fIxR (gotR n) l = j0 := by rw [gotN_ix, hj0]
 simp +decide -implicitDefEqProofs (maxSteps := 4000000) only [go_sem, Tryd.f97, e0]
 refine pwpC_loopU (A := { j : Nat // ∃ (m : Int) (r : WRec), l[j]? = some r ∧ gotR m r = true ∧ cur l (j + 1) m = some i }) [0] (fun j => [(5, .t (.int .i64 j.1))]) (fun _ => []) (fun j => j.1) ⟨j0, n, r0, hr0, hg0, hi⟩ (by decide) (fun _ => by rfl) ?_ fun Q1 hQ1 ⟨j, m, r, hr, hg, hc⟩ I1 hI1 => ?_
 ·simp +decide -implicitDefEqProofs (maxSteps := 4000000) only [go_sem]
 ·have hj := (List.getElem?_eq_some_iff.1 hr).1
  have hlt : (j : Int) < l.length := by omega
  have d1 := recL_at hr
  cases c1 : (r.kind == 3) with
  | true =>
   obtain ⟨j', r', h1, h2, h3, h4, h5⟩ := got_back ho hr hg (by simpa using c1) hc
   have e1 : fIxR (gotR r.num) l = j' := by rw [gotN_ix, h1]
   simp +decide -implicitDefEqProofs (maxSteps := 4000000) only [go_sem, hlt, d1, recT, c1, e1]
   refine hI1 _ ⟨j', _, r', h3, h4, h5⟩ (by simp only; omega) ?_
   simp +decide -implicitDefEqProofs (maxSteps := 4000000) only [go_sem]
  | false =>
   have e1 := got_end hr hg (by simpa using c1) hc
   subst e1
   simp +decide -implicitDefEqProofs (maxSteps := 4000000) only [go_sem, hlt, d1, recT, c1]
   refine hQ1 _ _ ?_
   simp +decide -implicitDefEqProofs (maxSteps := 4000000) only [go_sem]
noncomputable def spWb1 (l : List WRec) (s : TV) (n d : Int) (i : Nat) : Pm.Spec := (((noSpec.one 95 (oneP [.fn 96 [] [.cptr [.int .i64 n], .cptr [.int .i64 d]], s] (.int .i64 (fIxR (goneD n d) l)))).one 94 (oneP [s, .int .i64 n] (.int .i64 (fIxR (gotR n) l)))).one 97 (oneP [s, .int .i64 n] (.int .i64 i))).gdt.frz
noncomputable def spWb0 (l : List WRec) (s : TV) (n d : Int) : Pm.Spec := ((noSpec.one 95 (oneP [.fn 96 [] [.cptr [.int .i64 n], .cptr [.int .i64 d]], s] (.int .i64 (fIxR (goneD n d) l)))).one 94 (oneP [s, .int .i64 n] (.int .i64 (fIxR (gotR n) l)))).gdt.frz
theorem spWb0_ok {l : List WRec} {s : TV} (hs : bkT s l) (hl : l.length ≤ 40) (n d : Int) : SpecOk Tryd.prog (spWb0 l s n d) := Spec.frz_ok (Spec.gdt_ok (Spec.one_ok (oneP_ok (wGot_c hs (by omega) n)) (Spec.one_ok (oneP_ok (wFirst_c hs (by omega) (wBearer1_c n d))) noSpec_ok)))
theorem spWb1_ok {l : List WRec} {s : TV} (hs : bkT s l) (hl : l.length ≤ 40) (n d : Int) {i : Nat} (hi : PCalls Tryd.prog 97 [s, .int .i64 n] (.int .i64 i)) : SpecOk Tryd.prog (spWb1 l s n d i) := Spec.frz_ok (Spec.gdt_ok (Spec.one_ok (oneP_ok hi) (Spec.one_ok (oneP_ok (wGot_c hs (by omega) n)) (Spec.one_ok (oneP_ok (wFirst_c hs (by omega) (wBearer1_c n d))) noSpec_ok))))
theorem fIxR_any (p : WRec → Bool) (l : List WRec) : decide (fIxR p l ≥ 0) = l.any p := by
 unfold fIxR
 cases h : l.findIdx? p with
 | none =>
  rw [List.findIdx?_eq_none_iff] at h
  have : l.any p = false := by
   rw [List.any_eq_false]; intro x hx; rw [h x hx]; decide
  rw [this]; rfl
 | some i =>
  obtain ⟨hi, h1, _⟩ := List.findIdx?_eq_some_iff_getElem.1 h
  have : l.any p = true := List.any_eq_true.2 ⟨l[i], List.getElem_mem _, h1⟩
  rw [this]; simp
theorem wBearer_c {s : TV} {l : List WRec} (hs : bkT s l) (hb : bookB l = true) (n d : Int) : PCalls Tryd.prog 70 [s, .int .i64 n, .int .i64 d] (.int .i64 (optI (bearN l n d))) := by
 have hb' := hb
 unfold bookB at hb'
 simp only [Bool.and_eq_true, decide_eq_true_eq] at hb'
 obtain ⟨hl, ho⟩ := hb'
 cases hj : gotN l n with
 | none =>
  refine pcalls_by Tryd.mixes (spWb0_ok hs hl n d) (fn := Tryd.f70) Tryd.func70 rfl (by kernel_rfl) (by show 3 ≤ _; decide) ?_
  have e0 : fIxR (gotR n) l = -1 := by rw [gotN_ix, hj]
  have e1 : bearN l n d = none := bearN_none hj
  simp +decide -implicitDefEqProofs (maxSteps := 4000000) only [go_sem, Tryd.f70, spWb0, e0, e1, optI]
 | some j =>
  obtain ⟨r, hr, hg⟩ := gotN_some hj
  have hjl := (List.getElem?_eq_some_iff.1 hr).1
  obtain ⟨f, rfl⟩ : ∃ f, s = .sl (recL l) l.length f := by
   rcases hs with ⟨rfl, rfl⟩ | ⟨f, rfl⟩
   ·simp at hjl
   ·exact ⟨f, rfl⟩
  have e0 : fIxR (gotR n) l = j := by rw [gotN_ix, hj]
  have d1 := recL_at hr
  have hlt : (j : Int) < l.length := by omega
  have h0 : ¬ (j : Int) < 0 := by omega
  by_cases hd : r.day > d
  ·have e1 : bearN l n d = none := bearN_late ho hj hr hd
   refine pcalls_by Tryd.mixes (spWb0_ok hs hl n d) (fn := Tryd.f70) Tryd.func70 rfl (by kernel_rfl) (by show 3 ≤ _; decide) ?_
   simp +decide -implicitDefEqProofs (maxSteps := 4000000) only [go_sem, Tryd.f70, spWb0, e0, e1, optI, d1, recT, hlt, h0, hd]
  ·have e1 := bearN_gone ho hj hr (show r.day ≤ d by omega)
   obtain ⟨i, hi⟩ := got_born ho hr hg
   have ha := fIxR_any (goneD n d) l
   cases hany : l.any (goneD n d) with
   | true =>
    rw [hany, if_pos rfl] at e1
    rw [hany] at ha
    refine pcalls_by Tryd.mixes (spWb0_ok hs hl n d) (fn := Tryd.f70) Tryd.func70 rfl (by kernel_rfl) (by show 3 ≤ _; decide) ?_
    simp +decide -implicitDefEqProofs (maxSteps := 4000000) only [go_sem, Tryd.f70, spWb0, e0, e1, optI, d1, recT, hlt, h0, hd, freezeW, freezeO, frzC, thawP, thawC, ha]
   | false =>
    rw [hany, if_neg (by decide), hi] at e1
    rw [hany] at ha
    refine pcalls_by Tryd.mixes (spWb1_ok hs hl n d (wInstrument_c f hl ho hj hi)) (fn := Tryd.f70) Tryd.func70 rfl (by kernel_rfl) (by show 3 ≤ _; decide) ?_
    simp +decide -implicitDefEqProofs (maxSteps := 4000000) only [go_sem, Tryd.f70, spWb1, e0, e1, optI, d1, recT, hlt, h0, hd, freezeW, freezeO, frzC, thawP, thawC, ha]
end Go.Proofs.YtdkboibnokipaaaDoor

namespace Go.Ow
open Go Go.RowKit Go.Pm
def txT (l : List ByteArray) : TV := if l.length = 0 then .nilSl else .sl (l.map .str) l.length false
end Go.Ow
namespace Go.Proofs.YtdkboibnokipaaaDoor
open Go.RowKit Go.Pm Go.Ow
theorem bookB_iff {l : List WRec} : bookB l = true ↔ l.length ≤ 40 ∧ okTo l l.length = true := by unfold bookB; simp
theorem wMarks_c {l : List WRec} (f : Bool) (hb : bookB l = true) (i : Nat) (d : Int) : PCalls Tryd.prog 75 [.sl (recL l) l.length f, .int .i64 i, .int .i64 d] (txT (marksK l i d l.length)) := by
 obtain ⟨hl, ho⟩ := bookB_iff.1 hb
 have hI : ∀ n v, ((match gotN l n with | some j => (cur l (j + 1) n).map fun (i : Nat) => TV.int .i64 (i : Int) | none => none) : Option TV) = some v → PCalls Tryd.prog 97 [.sl (recL l) l.length f, .int .i64 n] v := by
  intro n v e
  split at e
  ·rename_i j hj
   obtain ⟨i, hi, he⟩ := Option.map_eq_some_iff.1 e
   subst he
   exact wInstrument_c f hl ho hj hi
  ·cases e
 refine pcalls_by Tryd.mixes (Spec.gdt_ok (Spec.one_ok (byP_ok hI) noSpec_ok)) (fn := Tryd.f75) Tryd.func75 rfl (by kernel_rfl) (by show 3 ≤ _; decide) ?_
 simp +decide -implicitDefEqProofs (maxSteps := 4000000) only [go_sem, Tryd.f75]
 refine pwpC_loopU (A := { k : Nat // k ≤ l.length }) [0, 1, 2, 10, 11] (fun k => [(12, .t (.int .i64 k.1)), (7, .own ((marksK l i d k.1).map .str) (marksK l i d k.1).length 0)]) (fun k => [(0, .tok (marksK l i d k.1).length 9)]) (fun k => l.length - k.1) ⟨0, by omega⟩ (by decide) (fun _ => by rfl) ?_ fun Q1 hQ1 ⟨k, hk⟩ I1 hI1 => ?_
 ·simp +decide -implicitDefEqProofs (maxSteps := 4000000) only [go_sem, marksK, List.length_nil]
  first | done | exact ⟨rfl, rfl⟩ | rfl | trace_state
 ·by_cases hlt : (k : Int) < l.length
  ·obtain ⟨r, hr⟩ : ∃ r, l[k]? = some r := ⟨_, List.getElem?_eq_getElem (by omega)⟩
   have d1 := recL_at hr
   have hle : k * 5 + 5 ≤ (recL l).length := by rw [recL_len]; omega
   have hk1 := Go.Pm.wS (k := k) (by omega)
   have hms := marksK_succ (i := i) (d := d) hr
   have hml := marksK_len (l := l) (i := i) (d := d) (k := k)
   have hR := ok_rec ho (by omega) hr
   have skip : ¬ (r.kind = 2 ∧ r.day ≤ d ∧ cur l k r.num = some i) → marksK l i d (k + 1) = marksK l i d k := fun h => by rw [hms, if_neg h, List.append_nil]
   cases c1 : (r.kind == 2) with
   | false =>
    have e := skip (fun h => by rw [h.1] at c1; cases c1)
    simp +decide -implicitDefEqProofs (maxSteps := 4000000) only [go_sem, hlt, d1, hle, recT, c1]
    refine hI1 _ ⟨k + 1, by omega⟩ (by simp only; omega) ?_
    simp +decide -implicitDefEqProofs (maxSteps := 4000000) only [go_sem, hk1, e]
   | true =>
    by_cases c2 : r.day ≤ d
    ·have hu := (hR.mend (by simpa using c1)).2.2
     rw [used_cur (ok_less ho (by omega)) hR.num.1] at hu
     obtain ⟨x, hx⟩ := Option.isSome_iff_exists.1 hu
     obtain ⟨j', r', g1, g2, g3⟩ := cur_has hx
     have hf := cur_first ho (by omega) hx (by omega) g2 g3
     have hgn := gotN_of ho g2 g3
     cases c3 : ((x : Int) == i) with
     | false =>
      have hxi : x ≠ i := fun e => by rw [e] at c3; simp at c3
      have e := skip (fun h => by rw [hx] at h; exact hxi (Option.some.inj h.2.2))
      simp +decide -implicitDefEqProofs (maxSteps := 4000000) only [go_sem, hlt, d1, hle, recT, c1, c2, hgn, hf.2, c3]
      refine hI1 _ ⟨k + 1, by omega⟩ (by simp only; omega) ?_
      simp +decide -implicitDefEqProofs (maxSteps := 4000000) only [go_sem, hk1, e]
     | true =>
      have hxi : x = i := by have := beq_iff_eq.1 c3; omega
      have e : marksK l i d (k + 1) = marksK l i d k ++ [r.by_] := by rw [hms, if_pos ⟨by simpa using c1, c2, by rw [hx, hxi]⟩]
      have e1 : (marksK l i d (k + 1)).map TV.str = (marksK l i d k).map TV.str ++ [.str r.by_] := by rw [e, List.map_append]; rfl
      have e2 : (marksK l i d (k + 1)).length = (marksK l i d k).length + 1 := by rw [e, List.length_append]; rfl
      have hr16 : ((marksK l i d k).length + 1) * 16 ≤ 140737488355328 := by omega
      have hlm : ((marksK l i d k).map TV.str).length = (marksK l i d k).length := List.length_map _
      simp +decide -implicitDefEqProofs (maxSteps := 4000000) only [go_sem, hlt, d1, hle, recT, c1, c2, hgn, hf.2, c3, hr16, hlm, Nat.mul_one]
      refine hI1 _ ⟨k + 1, by omega⟩ (by simp only; omega) ?_
      simp +decide -implicitDefEqProofs (maxSteps := 4000000) only [go_sem, hk1, e1, e2]
    ·have e := skip (fun h => c2 h.2.1)
     simp +decide -implicitDefEqProofs (maxSteps := 4000000) only [go_sem, hlt, d1, hle, recT, c1, c2]
     refine hI1 _ ⟨k + 1, by omega⟩ (by simp only; omega) ?_
     simp +decide -implicitDefEqProofs (maxSteps := 4000000) only [go_sem, hk1, e]
  ·have hke : k = l.length := by omega
   subst hke
   simp +decide -implicitDefEqProofs (maxSteps := 4000000) only [go_sem, hlt]
   refine hQ1 _ _ ?_
   simp +decide -implicitDefEqProofs (maxSteps := 4000000) only [go_sem, txT]
end Go.Proofs.YtdkboibnokipaaaDoor

namespace Go.Ow
open Go Go.RowKit Go.Pm
structure WCl where
 num : Int
 day : Int
 maker : ByteArray
 made : Int
 marks : List ByteArray
def clT (c : WCl) (s : TV) : TV := .agg [.int .i64 c.num, .int .i64 c.day, .str c.maker, .int .i64 c.made, s]
def headOk (c : WCl) : Bool := inW c.num 1 99999 && (inW c.day 0 100000 && (nameB c.maker && (inW c.made 0 100000 && decide (c.marks.length ≤ 40))))
def diffAt (a b : List ByteArray) (k : Nat) : Bool := decide (a.length ≤ k) || (decide (b.length ≤ k) || !decide (a.getD k ByteArray.empty = b.getD k ByteArray.empty))
def diffP (a b : List ByteArray) : Option Nat := (List.range (max a.length b.length)).find? (diffAt a b)
theorem diffP_some {a b : List ByteArray} {k : Nat} (hk : k < max a.length b.length) (hno : ∀ j, j < k → diffAt a b j = false) (h : diffAt a b k = true) : diffP a b = some k := by
 unfold diffP
 rw [List.find?_range_eq_some]
 exact ⟨h, List.mem_range.2 hk, fun j hj => by rw [hno j hj]; rfl⟩
theorem diffP_none {a b : List ByteArray} (hno : ∀ j, j < max a.length b.length → diffAt a b j = false) : diffP a b = none := by
 unfold diffP
 rw [List.find?_eq_none]
 intro j hj
 rw [hno j (List.mem_range.1 hj)]; decide
def judgeP (l : List WRec) (c : WCl) : (Int × Int) × Int :=
 if bookB l then
  if headOk c && c.marks.all nameB then
   match bearN l c.num c.day with
   | none => ((1, 0), 0)
   | some i => match l[i]? with
    | none => ((0, 0), 0)
    | some r => if ¬ r.by_ = c.maker then ((2, 0), 0) else if ¬ r.day = c.made then ((3, 0), 0) else
     match diffP (marksK l i c.day l.length) c.marks with
     | some k => ((4, (k : Int)), 0)
     | none => ((0, 0), 0)
  else ((0, 0), 93)
 else ((0, 0), 92)
def judT (x : (Int × Int) × Int) : TV := .tup [.agg [.int .i64 x.1.1, .int .i64 x.1.2], .int .i64 x.2]
theorem beqS (a b : ByteArray) : (a.toList == b.toList) = decide (a = b) := by
 rw [Bool.eq_iff_iff, beq_iff_eq, decide_eq_true_eq, ByteArray.toList_eq, ByteArray.toList_eq]
 constructor
 ·intro h
  cases a; cases b
  simp only [ByteArray.mk.injEq] at *
  exact Array.toList_inj.1 h
 ·rintro rfl; rfl
open Classical in
noncomputable def by2P (s0 : TV) (g : Int → Int → Option TV) : List TV → Option TV
 | [s, .int .i64 a, .int .i64 b] => if s = s0 then g a b else none
 | _ => none
open Classical in
@[go_sem] theorem by2P_eq (s0 s : TV) (g : Int → Int → Option TV) (a b : Int) : by2P s0 g [s, .int .i64 a, .int .i64 b] = if s = s0 then g a b else none := rfl
theorem by2P_ok {P : Program} {f : FuncId} {s0 : TV} {g : Int → Int → Option TV} (h : ∀ a b v, g a b = some v → PCalls P f [s0, .int .i64 a, .int .i64 b] v) : ∀ a r, by2P s0 g a = some r → PCalls P f a r := by
 intro a r e
 unfold by2P at e
 split at e
 ·split at e
  ·rename_i hc; subst hc; exact h _ _ _ e
  ·cases e
 ·cases e
end Go.Ow
namespace Go.Proofs.YtdkboibnokipaaaDoor
open Go.RowKit Go.Pm Go.Ow
noncomputable def spWk (l : List WRec) (s : TV) (g : Int → Int → Option TV) (h : Int → Int → Option TV) : Pm.Spec := (((((((spWa.one 68 wkIsNumber).one 69 wkIsDay).one 74 wkIsName).one 28 (oneP [s] (.int .i64 (if bookB l then 0 else 92)))).one 70 (by2P s g)).one 75 (by2P s h))).gdt
theorem spWk_ok {l : List WRec} {s : TV} {g h : Int → Int → Option TV} (hs : bkT s l) (hL : l.length ≤ 140737488355328) (hg : ∀ a b v, g a b = some v → PCalls Tryd.prog 70 [s, .int .i64 a, .int .i64 b] v) (hh : ∀ a b v, h a b = some v → PCalls Tryd.prog 75 [s, .int .i64 a, .int .i64 b] v) : SpecOk Tryd.prog (spWk l s g h) := Spec.gdt_ok (Spec.one_ok (by2P_ok hh) (Spec.one_ok (by2P_ok hg) (Spec.one_ok (oneP_ok (wCheckBook_c hs hL)) (Spec.one_ok wkIsName_ok (Spec.one_ok wkIsDay_ok (Spec.one_ok wkIsNumber_ok spWa_ok))))))
theorem wJudge_c {s m : TV} {l : List WRec} {c : WCl} (hs : bkT s l) (hL : l.length ≤ 140737488355328) (hm : txR m c.marks) (hM : c.marks.length ≤ 140737488355328) : PCalls Tryd.prog 30 [s, clT c m] (judT (judgeP l c)) := by
 obtain ⟨num, day, maker, made, marks⟩ := c
 simp only at hm hM
 rcases Bool.eq_false_or_eq_true (bookB l) with hb | hb
 rotate_left
 ·have e : judgeP l ⟨num, day, maker, made, marks⟩ = ((0, 0), 92) := by unfold judgeP; rw [hb]; rfl
  rw [e]
  refine pcalls_by Tryd.mixes (spWk_ok (g := fun _ _ => none) (h := fun _ _ => none) hs hL (fun _ _ _ h => by cases h) (fun _ _ _ h => by cases h)) (fn := Tryd.f30) Tryd.func30 rfl (by kernel_rfl) (by show 2 ≤ _; decide) ?_
  simp +decide -implicitDefEqProofs (maxSteps := 4000000) only [go_sem, Tryd.f30, hb, clT, judT, spWk]
 ·obtain ⟨hl, hok⟩ := bookB_iff.1 hb
  have hMk : ∀ a b v, (if 0 ≤ a ∧ l ≠ [] then some (txT (marksK l a.toNat b l.length)) else none) = some v → PCalls Tryd.prog 75 [s, .int .i64 a, .int .i64 b] v := by
   intro a b v h
   split at h
   ·rename_i hc
    cases h
    rcases hs with ⟨_, e⟩ | ⟨f, rfl⟩
    ·exact absurd e hc.2
    ·have := wMarks_c f hb a.toNat b
     rwa [Int.toNat_of_nonneg hc.1] at this
   ·cases h
  have hBr : ∀ a b v, some (TV.int .i64 (optI (bearN l a b))) = some v → PCalls Tryd.prog 70 [s, .int .i64 a, .int .i64 b] v := fun a b v h => by cases h; exact wBearer_c hs hb a b
  refine pcalls_by Tryd.mixes (spWk_ok hs hL hBr hMk) (fn := Tryd.f30) Tryd.func30 rfl (by kernel_rfl) (by show 2 ≤ _; decide) ?_
  rcases Bool.eq_false_or_eq_true (headOk ⟨num, day, maker, made, marks⟩) with ho | ho
  rotate_left
  ·have e : judgeP l ⟨num, day, maker, made, marks⟩ = ((0, 0), 93) := by unfold judgeP; rw [hb, ho]; rfl
   rw [e]
   have h5 : inW num 1 99999 = false ∨ (inW num 1 99999 = true ∧ (inW day 0 100000 = false ∨ (inW day 0 100000 = true ∧ (nameB maker = false ∨ (nameB maker = true ∧ (inW made 0 100000 = false ∨ (inW made 0 100000 = true ∧ ¬ (marks.length : Int) ≤ 40))))))) := by
    have ho : (inW num 1 99999 && (inW day 0 100000 && (nameB maker && (inW made 0 100000 && decide (marks.length ≤ 40))))) = false := ho
    by_cases h40 : marks.length ≤ 40
    ·rw [decide_eq_true h40] at ho
     revert ho
     cases inW num 1 99999 <;> cases inW day 0 100000 <;> cases nameB maker <;> cases inW made 0 100000 <;> simp
    ·have : ¬ (marks.length : Int) ≤ 40 := by omega
     cases inW num 1 99999 <;> cases inW day 0 100000 <;> cases nameB maker <;> cases inW made 0 100000 <;> simp [this]
   rcases hm with ⟨rfl, hn⟩ | ⟨gf, rfl⟩
   all_goals rcases h5 with c1 | ⟨c1, c2 | ⟨c2, c3 | ⟨c3, c4 | ⟨c4, c5⟩⟩⟩⟩
   all_goals first
    | (exfalso; rw [hn] at c5; simp at c5; done)
    | simp +decide -implicitDefEqProofs (maxSteps := 4000000) only [go_sem, Tryd.f30, hb, clT, judT, spWk, c1, c2, c3, c4, c5]
    | simp +decide -implicitDefEqProofs (maxSteps := 4000000) only [go_sem, Tryd.f30, hb, clT, judT, spWk, c1, c2, c3, c4]
    | simp +decide -implicitDefEqProofs (maxSteps := 4000000) only [go_sem, Tryd.f30, hb, clT, judT, spWk, c1, c2, c3]
    | simp +decide -implicitDefEqProofs (maxSteps := 4000000) only [go_sem, Tryd.f30, hb, clT, judT, spWk, c1, c2]
    | simp +decide -implicitDefEqProofs (maxSteps := 4000000) only [go_sem, Tryd.f30, hb, clT, judT, spWk, c1]
   all_goals
    refine pwpC_loopU (A := { k : Nat // k ≤ marks.length }) [3, 4, 5, 45, 46] (fun k => [(47, .t (.int .i64 k.1)), (7, .t (.bool false))]) (fun _ => []) (fun k => marks.length - k.1) ⟨0, Nat.zero_le _⟩ (by decide) (fun _ => by rfl) ?_ fun Q1 hQ1 ⟨k, hk⟩ I1 hI1 => ?_
    ·simp +decide -implicitDefEqProofs (maxSteps := 4000000) only [go_sem]
    ·have h00 : ¬ (k : Int) < 0 := by omega
     by_cases hlt : (k : Int) < marks.length
     ·first
       | (exfalso; rw [hn] at hlt; simp at hlt; omega)
       | (obtain ⟨x, hx⟩ : ∃ x, marks[k]? = some x := ⟨_, List.getElem?_eq_getElem (by omega)⟩
          have d1 := txs_at hx
          have hk1 := Go.Pm.wS (k := k) (by omega)
          simp +decide -implicitDefEqProofs (maxSteps := 4000000) only [go_sem, hlt, d1, Nat.mul_one]
          refine hI1 _ ⟨k + 1, by omega⟩ (by simp only; omega) ?_
          simp +decide -implicitDefEqProofs (maxSteps := 4000000) only [go_sem, hk1])
     ·simp +decide -implicitDefEqProofs (maxSteps := 4000000) only [go_sem, hlt, h00]
      refine hQ1 _ _ ?_
      simp +decide -implicitDefEqProofs (maxSteps := 4000000) only [go_sem, judT]
  ·have ho' := ho
   unfold headOk at ho'
   simp only [Bool.and_eq_true, decide_eq_true_eq] at ho'
   obtain ⟨c1, c2, c3, c4, c5⟩ := ho'
   have c5' : (marks.length : Int) ≤ 40 := by omega
   rcases hm with ⟨rfl, hn⟩ | ⟨gf, rfl⟩
   all_goals simp +decide -implicitDefEqProofs (maxSteps := 4000000) only [go_sem, Tryd.f30, hb, clT, spWk, c1, c2, c3, c4, c5']
   all_goals
    refine pwpC_loopU (A := { k : Nat // k ≤ marks.length }) [0, 3, 4, 5, 45, 46] (fun k => [(47, .t (.int .i64 k.1)), (7, .t (.bool ((marks.take k.1).all nameB)))]) (fun _ => []) (fun k => marks.length - k.1) ⟨0, Nat.zero_le _⟩ (by decide) (fun _ => by rfl) ?_ fun Q1 hQ1 ⟨k, hk⟩ I1 hI1 => ?_
    ·simp +decide -implicitDefEqProofs (maxSteps := 4000000) only [go_sem, List.take_zero, List.all_nil]
    ·have h00 : ¬ (k : Int) < 0 := by omega
     by_cases hlt : (k : Int) < marks.length
     ·first
       | (exfalso; rw [hn] at hlt; simp at hlt; omega)
       | (obtain ⟨x, hx⟩ : ∃ x, marks[k]? = some x := ⟨_, List.getElem?_eq_getElem (by omega)⟩
          have d1 := txs_at hx
          have hk1 := Go.Pm.wS (k := k) (by omega)
          have hta : (marks.take (k + 1)).all nameB = ((marks.take k).all nameB && nameB x) := by rw [List.take_add_one, hx, List.all_append]; simp
          rcases Bool.eq_false_or_eq_true ((marks.take k).all nameB) with ht | ht
          ·rw [ht, Bool.true_and] at hta
           simp +decide -implicitDefEqProofs (maxSteps := 4000000) only [go_sem, hlt, d1, Nat.mul_one, ht]
           refine hI1 _ ⟨k + 1, by omega⟩ (by simp only; omega) ?_
           simp +decide -implicitDefEqProofs (maxSteps := 4000000) only [go_sem, hk1, hta]
          ·rw [ht, Bool.false_and] at hta
           simp +decide -implicitDefEqProofs (maxSteps := 4000000) only [go_sem, hlt, d1, Nat.mul_one, ht]
           refine hI1 _ ⟨k + 1, by omega⟩ (by simp only; omega) ?_
           simp +decide -implicitDefEqProofs (maxSteps := 4000000) only [go_sem, hk1, hta])
     ·have hke : k = marks.length := by omega
      subst hke
      rcases Bool.eq_false_or_eq_true (marks.all nameB) with ha | ha
      rotate_left
      ·have e : judgeP l ⟨num, day, maker, made, marks⟩ = ((0, 0), 93) := by unfold judgeP; rw [hb, ho]; simp only [ha]; rfl
       simp +decide -implicitDefEqProofs (maxSteps := 4000000) only [go_sem, hlt, h00, List.take_length, ha]
       refine hQ1 _ _ ?_
       simp +decide -implicitDefEqProofs (maxSteps := 4000000) only [go_sem, judT, e, List.take_length, ha]
      ·have e : judgeP l ⟨num, day, maker, made, marks⟩ = (match bearN l num day with
         | none => ((1, 0), 0)
         | some i => match l[i]? with
          | none => ((0, 0), 0)
          | some r => if ¬ r.by_ = maker then ((2, 0), 0) else if ¬ r.day = made then ((3, 0), 0) else
           match diffP (marksK l i day l.length) marks with
           | some k => ((4, (k : Int)), 0)
           | none => ((0, 0), 0)) := by unfold judgeP; rw [hb, ho]; simp only [ha]; rfl
       cases hB : bearN l num day with
       | none =>
        rw [hB] at e
        simp +decide -implicitDefEqProofs (maxSteps := 4000000) only [go_sem, hlt, h00, List.take_length, ha]
        refine hQ1 _ _ ?_
        simp +decide -implicitDefEqProofs (maxSteps := 4000000) only [go_sem, judT, e, List.take_length, ha, hB, optI]
       | some i =>
        rw [hB] at e
        obtain ⟨r, hr, hk1⟩ := cur_made hB
        simp only [hr] at e
        have hil := (List.getElem?_eq_some_iff.1 hr).1
        have hlt2 : (i : Int) < l.length := by omega
        have hi0 : ¬ (i : Int) < 0 := by omega
        have hne : ¬ l = [] := fun e => by rw [e] at hil; simp at hil
        have d1 := recL_at hr
        obtain ⟨f, rfl⟩ : ∃ f, s = .sl (recL l) l.length f := by
         rcases hs with ⟨rfl, e⟩ | ⟨f, rfl⟩
         ·exact absurd e hne
         ·exact ⟨f, rfl⟩
        have hbs := beqS r.by_ maker
        by_cases hmk : r.by_ = maker
        rotate_left
        ·rw [if_pos hmk] at e
         rw [decide_eq_false hmk] at hbs
         simp +decide -implicitDefEqProofs (maxSteps := 4000000) only [go_sem, hlt, h00, List.take_length, ha]
         refine hQ1 _ _ ?_
         simp +decide -implicitDefEqProofs (maxSteps := 4000000) only [go_sem, judT, e, List.take_length, ha, hB, optI, hi0, hlt2, d1, recT, hbs]
        ·rw [if_neg (fun h => h hmk)] at e
         rw [decide_eq_true hmk] at hbs
         by_cases hmd : r.day = made
         rotate_left
         ·rw [if_pos hmd] at e
          have hmd' := bne_int_t hmd
          simp +decide -implicitDefEqProofs (maxSteps := 4000000) only [go_sem, hlt, h00, List.take_length, ha]
          refine hQ1 _ _ ?_
          simp +decide -implicitDefEqProofs (maxSteps := 4000000) only [go_sem, judT, e, List.take_length, ha, hB, optI, hi0, hlt2, d1, recT, hbs, hmd']
         ·rw [if_neg (fun h => h hmd)] at e
          have hmd' := bne_int_f hmd
          have htl := marksK_len (l := l) (i := i) (d := day) (k := l.length)
          simp +decide -implicitDefEqProofs (maxSteps := 4000000) only [go_sem, hlt, h00, List.take_length, ha]
          refine hQ1 _ _ ?_
          generalize hM2 : marksK l i day l.length = M at *
          by_cases hM0 : M.length = 0
          all_goals simp +decide -implicitDefEqProofs (maxSteps := 4000000) only [go_sem, List.take_length, ha, hB, optI, hi0, hlt2, d1, recT, hbs, hmd', hne, hM2, txT, hM0]
          all_goals
           refine pwpC_loopU (A := { k : Nat // k ≤ max M.length marks.length ∧ ∀ j, j < k → diffAt M marks j = false }) [3, 4, 5, 12] (fun k => [(102, .t (.int .i64 k.1)), (101, .t (.int .i64 ((max M.length marks.length : Nat) : Int)))]) (fun _ => []) (fun k => max M.length marks.length - k.1) ⟨0, Nat.zero_le _, fun j hj => absurd hj (by omega)⟩ (by decide) (fun _ => by rfl) ?_ fun Q2 hQ2 ⟨k, hk, hno⟩ I2 hI2 => ?_
           ·have hml : marks.length = marks.length := rfl
            simp +decide -implicitDefEqProofs (maxSteps := 4000000) only [go_sem]
            first | done | omega | (rw [hn]; simp only [List.length_nil]; omega)
           ·have hk1 := Go.Pm.wS (k := k) (by omega)
            by_cases hlt3 : (k : Int) < ((max M.length marks.length : Nat) : Int)
            ·have h1z : (k : Int) ≥ 0 := by omega
             by_cases h1 : (k : Int) ≥ M.length
             ·have hdf : diffAt M marks k = true := by unfold diffAt; rw [decide_eq_true (show M.length ≤ k by omega)]; rfl
              have hdp := diffP_some (by omega) hno hdf
              rw [hdp] at e
              simp +decide -implicitDefEqProofs (maxSteps := 4000000) only [go_sem, hlt3, h1, h1z]
              refine hQ2 _ _ ?_
              simp +decide -implicitDefEqProofs (maxSteps := 4000000) only [go_sem, e, judT]
             ·by_cases h2 : (k : Int) ≥ marks.length
              ·have hdf : diffAt M marks k = true := by unfold diffAt; rw [decide_eq_true (show marks.length ≤ k by omega)]; simp
               have hdp := diffP_some (by omega) hno hdf
               rw [hdp] at e
               first
                | (exfalso; omega)
                | (simp +decide -implicitDefEqProofs (maxSteps := 4000000) only [go_sem, hlt3, h1, h2, h1z]
                   refine hQ2 _ _ ?_
                   simp +decide -implicitDefEqProofs (maxSteps := 4000000) only [go_sem, e, judT])
              ·first
                | (exfalso; omega)
                | (exfalso; rw [hn] at h2; simp only [List.length_nil] at h2; omega)
                | (obtain ⟨x, hx⟩ : ∃ x, M[k]? = some x := ⟨_, List.getElem?_eq_getElem (by omega)⟩
                   obtain ⟨y, hy⟩ : ∃ x, marks[k]? = some x := ⟨_, List.getElem?_eq_getElem (by omega)⟩
                   have dx := txs_at hx
                   have dy := txs_at hy
                   have h1' : (k : Int) < M.length := by omega
                   have h2' : (k : Int) < marks.length := by omega
                   have gx : M.getD k ByteArray.empty = x := by rw [List.getD_eq_getElem?_getD, hx]; rfl
                   have gy : marks.getD k ByteArray.empty = y := by rw [List.getD_eq_getElem?_getD, hy]; rfl
                   have hxy := beqS x y
                   have hdd : diffAt M marks k = !decide (x = y) := by unfold diffAt; rw [gx, gy, decide_eq_false (show ¬ M.length ≤ k by omega), decide_eq_false (show ¬ marks.length ≤ k by omega)]; rfl
                   by_cases he : x = y
                   ·rw [decide_eq_true he] at hxy hdd
                    simp +decide -implicitDefEqProofs (maxSteps := 4000000) only [go_sem, hlt3, h1, h2, h1', h2', dx, dy, Nat.mul_one, hxy]
                    refine hI2 _ ⟨k + 1, by omega, fun j hj => ?_⟩ (by simp only; omega) ?_
                    ·by_cases ej : j = k
                     ·subst ej; exact hdd
                     ·exact hno j (by omega)
                    ·simp +decide -implicitDefEqProofs (maxSteps := 4000000) only [go_sem, hk1]
                   ·rw [decide_eq_false he] at hxy hdd
                    have hdp := diffP_some (by omega) hno hdd
                    rw [hdp] at e
                    simp +decide -implicitDefEqProofs (maxSteps := 4000000) only [go_sem, hlt3, h1, h2, h1', h2', dx, dy, Nat.mul_one, hxy]
                    refine hQ2 _ _ ?_
                    simp +decide -implicitDefEqProofs (maxSteps := 4000000) only [go_sem, e, judT])
            ·have hdp : diffP M marks = none := diffP_none fun j hj => hno j (by omega)
             rw [hdp] at e
             simp +decide -implicitDefEqProofs (maxSteps := 4000000) only [go_sem, hlt3]
             refine hQ2 _ _ ?_
             simp +decide -implicitDefEqProofs (maxSteps := 4000000) only [go_sem, e, judT]
end Go.Proofs.YtdkboibnokipaaaDoor

namespace Go.Proofs.YtdkboibnokipaaaDoor
open Go.RowKit Go.Pm Go.Ow
theorem rIn_c (n lo hi : Int) : PCalls Tryd.prog 42 [.int .i64 n, .int .i64 lo, .int .i64 hi] (.bool (inW n lo hi)) := by
 refine pcalls_by Tryd.mixes noSpec_ok (fn := Tryd.f42) Tryd.func42 rfl (by kernel_rfl) (by show 3 ≤ _; decide) ?_
 simp +decide (maxSteps := 4000000) only [go_sem, decide_true, Tryd.f42, inW, ge_iff_le]
noncomputable def rfIn : List TV → Option TV
 | [.int .i64 n, .int .i64 lo, .int .i64 hi] => some (.bool (inW n lo hi))
 | _ => none
theorem rfIn_ok : ∀ xs r, rfIn xs = some r → PCalls Tryd.prog 42 xs r := by
 intro xs r h
 unfold rfIn at h
 split at h
 ·cases h; exact rIn_c _ _ _
 ·cases h
attribute [go_sem] rfIn
end Go.Proofs.YtdkboibnokipaaaDoor

namespace Go.Ow
open Go Go.RowKit Go.Pm
end Go.Ow
namespace Go.Proofs.YtdkboibnokipaaaDoor
open Go.RowKit Go.Pm Go.Ow
end Go.Proofs.YtdkboibnokipaaaDoor

namespace Go.Ow
open Go Go.RowKit Go.Pm
end Go.Ow
namespace Go.Proofs.YtdkboibnokipaaaDoor
open Go.RowKit Go.Pm Go.Ow
end Go.Proofs.YtdkboibnokipaaaDoor

namespace Go.Ow
open Go Go.RowKit Go.Pm
end Go.Ow
namespace Go.Proofs.YtdkboibnokipaaaDoor
open Go.RowKit Go.Pm Go.Ow
end Go.Proofs.YtdkboibnokipaaaDoor

namespace Go.Ow
open Go Go.RowKit Go.Pm
def txtF : Nat → Nat → List UInt8
 | 0, _ => []
 | k + 1, n => if n < 10 then [UInt8.ofNat (48 + n)] else txtF k (n / 10) ++ [UInt8.ofNat (48 + n % 10)]
theorem dig_nat {d : Nat} (h : d < 10) : (UInt8.ofNat (48 + d)).toNat = 48 + d := by simp; omega
theorem txtF_ok : ∀ (k n : Nat), n < 10 ^ (k + 1) → (1 ≤ (txtF (k + 1) n).length ∧ (txtF (k + 1) n).length ≤ k + 1) ∧ (∀ b ∈ txtF (k + 1) n, digU b) ∧ (0 < n → ∃ b r, txtF (k + 1) n = b :: r ∧ b ≠ 48) ∧ (1 < (txtF (k + 1) n).length → 0 < n) ∧ (txtF (k + 1) n).foldl (fun a (b : UInt8) => 10 * a + ((b.toNat : Int) - 48)) 0 = (n : Int)
 | k, n, h => by
  by_cases h1 : n < 10
  ·have e : txtF (k + 1) n = [UInt8.ofNat (48 + n)] := by rw [txtF, if_pos h1]
   have hd := dig_nat h1
   rw [e]
   refine ⟨by simp, fun b hb => ?_, fun h0 => ⟨_, _, rfl, fun h48 => ?_⟩, fun h => by simp at h, ?_⟩
   ·rw [List.mem_singleton] at hb
    rw [hb]; unfold digU; omega
   ·rw [h48] at hd
    have : (48 : UInt8).toNat = 48 := rfl
    omega
   ·rw [List.foldl_cons, List.foldl_nil, hd]; omega
  ·have e : txtF (k + 1) n = txtF k (n / 10) ++ [UInt8.ofNat (48 + n % 10)] := by rw [txtF, if_neg h1]
   have hd := dig_nat (show n % 10 < 10 by omega)
   cases k with
   | zero => rw [Nat.zero_add, Nat.pow_one] at h; omega
   | succ k =>
    have hk : n / 10 < 10 ^ (k + 1) := by
     rw [Nat.pow_succ] at h
     exact Nat.div_lt_of_lt_mul (by rw [Nat.mul_comm]; exact h)
    obtain ⟨⟨l1, l2⟩, hb, hf, hp, hv⟩ := txtF_ok k (n / 10) hk
    rw [e]
    refine ⟨by rw [List.length_append, List.length_singleton]; omega, fun b hb2 => ?_, fun _ => ?_, fun _ => by omega, ?_⟩
    ·rcases List.mem_append.1 hb2 with hb2 | hb2
     ·exact hb b hb2
     ·rw [List.mem_singleton] at hb2
      rw [hb2]; unfold digU; omega
    ·obtain ⟨b, r, h1, h2⟩ := hf (by omega)
     exact ⟨b, r ++ [UInt8.ofNat (48 + n % 10)], by rw [h1]; rfl, h2⟩
    ·rw [List.foldl_append, hv, List.foldl_cons, List.foldl_nil, hd]; omega
end Go.Ow

namespace Go.Proofs.YtdkboibnokipaaaDoor
open Go.RowKit Go.Pm Go.Ow
end Go.Proofs.YtdkboibnokipaaaDoor

namespace Go.Ow
open Go Go.RowKit Go.Pm
end Go.Ow
namespace Go.Proofs.YtdkboibnokipaaaDoor
open Go.RowKit Go.Pm Go.Ow
end Go.Proofs.YtdkboibnokipaaaDoor

namespace Go.Proofs.YtdkboibnokipaaaDoor
open Go.RowKit Go.Pm Go.Ow
def baL (l : List UInt8) : ByteArray := ⟨l.toArray⟩
theorem idsG_ts (cs : List TV) : (cs.map PV.t).flatMap idsG = [] := by
 induction cs with
 | nil => rfl
 | cons c cs ih => rw [List.map_cons, List.flatMap_cons, ih]; rfl
theorem allO_ts (cs : List TV) : allO ((cs.map PV.t).map PV.toT) = some cs := by
 induction cs with
 | nil => rfl
 | cons c cs ih => simp only [List.map_cons, allO, PV.toT, ih, Option.map_some]
theorem thawA_ts {h : Hp} (cs : List TV) : allO ((cs.map PV.t).map (thawC h)) = some cs := by
 induction cs with
 | nil => rfl
 | cons c cs ih => simp only [List.map_cons, allO, thawC, PV.toT, ih, Option.map_some]
section
variable (g : FuncId) (xs : List TV) (ps : List PV) (hl : List PO) (Y : YS) (t : TypeId)
end
end Go.Proofs.YtdkboibnokipaaaDoor

namespace Go.Proofs.YtdkboibnokipaaaDoor
open Go.RowKit Go.Pm Go.Ow
end Go.Proofs.YtdkboibnokipaaaDoor

namespace Go.Proofs.YtdkboibnokipaaaDoor
open Go.RowKit Go.Pm Go.Ow
end Go.Proofs.YtdkboibnokipaaaDoor

namespace Go.Ow
open Go Go.RowKit Go.Pm
end Go.Ow
namespace Go.Proofs.YtdkboibnokipaaaDoor
open Go.RowKit Go.Pm Go.Ow
end Go.Proofs.YtdkboibnokipaaaDoor

namespace Go.Ow
open Go Go.RowKit Go.Pm
def litT (p : List (List ByteArray)) : TV := .sl (p.map fun r => .sl (r.map .str) r.length true) p.length true
theorem litT_R (p : List (List ByteArray)) : pgR (litT p) p := .inr ⟨_, true, rfl, List.length_map _, fun k r t hr ht => by
 rw [List.getElem?_map, hr] at ht
 cases ht
 exact .inr ⟨true, rfl⟩⟩
end Go.Ow
namespace Go.Proofs.YtdkboibnokipaaaDoor
open Go.RowKit Go.Pm Go.Ow
theorem restore_of {s R : TV} {p : List (List ByteArray)} (hs : pgR s p) (hv : validB p = true) (h : restT p = R) : PCalls Tryd.prog 14 [s] R := h ▸ wRestore_c hs hv
end Go.Proofs.YtdkboibnokipaaaDoor

namespace Go.Ow
open Go Go.RowKit Go.Pm
end Go.Ow
namespace Go.Proofs.YtdkboibnokipaaaDoor
open Go.RowKit Go.Pm Go.Ow
theorem rMod_c (n b : Int) (h : 0 < b) (h2 : b ≤ 9223372036854775807) : PCalls Tryd.prog 33 [.int .i64 n, .int .i64 b] (.int .i64 (n % b)) := by
 refine pcalls_by Tryd.mixes noSpec_ok (fn := Tryd.f33) Tryd.func33 rfl (by kernel_rfl) (by show 2 ≤ _; decide) ?_
 have hne : ¬ b = 0 := by omega
 simp +decide (maxSteps := 4000000) only [go_sem, decide_true, Tryd.f33, hne]
 have e := Int.tmod_eq_emod (a := n) (b := b)
 have e1 := Int.emod_nonneg n hne
 have e2 := Int.emod_lt_of_pos n h
 by_cases hn : n.tmod b < 0
 ·simp +decide (maxSteps := 4000000) only [go_sem, decide_true, hn]
  have e3 : n.tmod b + b = n % b := by
   rw [e] at hn ⊢
   split at hn
   ·omega
   ·rename_i hc
    rw [if_neg hc]
    have : (b.natAbs : Int) = b := by omega
    omega
  rw [e3, wrap_in (by omega) (by omega)]
 ·simp +decide (maxSteps := 4000000) only [go_sem, decide_true, hn]
  rw [e] at hn ⊢
  split at hn
  ·rename_i hc; rw [if_pos hc]; simp
  ·rename_i hc
   have : (b.natAbs : Int) = b := by omega
   omega
noncomputable def rfMod : List TV → Option TV
 | [.int .i64 n, .int .i64 b] => if 0 < b ∧ b ≤ 9223372036854775807 then some (.int .i64 (n % b)) else none
 | _ => none
theorem rfMod_ok : ∀ xs r, rfMod xs = some r → PCalls Tryd.prog 33 xs r := by
 intro xs r h
 unfold rfMod at h
 split at h
 ·split at h
  ·rename_i hc; cases h; exact rMod_c _ _ hc.1 hc.2
  ·cases h
 ·cases h
attribute [go_sem] rfMod
end Go.Proofs.YtdkboibnokipaaaDoor

namespace Go.Proofs.YtdkboibnokipaaaDoor
open Go.RowKit Go.Pm Go.Ow
theorem baL_app (l : List UInt8) (x : ByteArray) : baL l ++ x = baL (l ++ x.data.toList) := by
 apply ba_ext
 rw [ByteArray.data_append, Array.toList_append]; rfl
end Go.Proofs.YtdkboibnokipaaaDoor

namespace Go.Ow
open Go Go.RowKit Go.Pm
def inR (X : TV) (l : List Int) : Prop := (X = .nilSl ∧ l = []) ∨ ∃ f, X = .sl (l.map (.int .i64)) l.length f
theorem ints_at {l : List Int} {k : Nat} {x : Int} (h : l[k]? = some x) : (l.map (TV.int .i64)).drop k = .int .i64 x :: (l.map (TV.int .i64)).drop (k + 1) := by
 have hk := (List.getElem?_eq_some_iff.1 h).1
 rw [List.drop_eq_getElem_cons (by rw [List.length_map]; exact hk), List.getElem_map]
 have := List.getElem?_eq_getElem hk
 rw [h] at this
 rw [← Option.some.inj this]
end Go.Ow
namespace Go.Proofs.YtdkboibnokipaaaDoor
open Go.RowKit Go.Pm Go.Ow
theorem rText_c : ∀ (k n : Nat), k ≤ 4 → n < 10 ^ (k + 1) → PCalls Tryd.prog 50 [.int .i64 (n : Int)] (.str ⟨(txtF (k + 1) n).toArray⟩) := by
 intro k
 induction k with
 | zero =>
  intro n _ h
  have hn : n < 10 := by simpa using h
  have e : txtF (0 + 1) n = [UInt8.ofNat (48 + n % 10)] := by rw [txtF, if_pos hn, Nat.mod_eq_of_lt hn]
  rw [e]
  have h1 : ¬ (n : Int) < 0 := by omega
  have h2 : ¬ (n : Int) ≥ 10 := by omega
  have ht : (n : Int).tmod 10 = ((n % 10 : Nat) : Int) := by rw [Int.tmod_eq_emod_of_nonneg (by omega)]; rfl
  have w1 : IntKind.i64.wrap (48 + ((n % 10 : Nat) : Int)) = 48 + ((n % 10 : Nat) : Int) := wrap_in (by omega) (by omega)
  have w2 : IntKind.u8.wrap (48 + ((n % 10 : Nat) : Int)) = 48 + ((n % 10 : Nat) : Int) := by rw [IntKind.wrap_u8]; omega
  have hs : strOfNums [48 + ((n % 10 : Nat) : Int)] = ⟨#[UInt8.ofNat (48 + n % 10)]⟩ := by
   unfold strOfNums
   rw [List.map_cons, List.map_nil, show (48 + ((n % 10 : Nat) : Int)).toNat = 48 + n % 10 by omega]
  obtain ⟨m, hm⟩ : ∃ m, n % 10 = m := ⟨_, rfl⟩
  rw [hm] at ht w1 w2 hs ⊢
  refine pcalls_by Tryd.mixes (Spec.gdt_ok noSpec_ok) (fn := Tryd.f50) Tryd.func50 rfl (by kernel_rfl) (by show 1 ≤ _; decide) ?_
  simp +decide -implicitDefEqProofs (maxSteps := 4000000) only [go_sem, Tryd.f50, h1, h2, ht, w1, w2, hs]
 | succ k ih =>
  intro n hk h
  have h1 : ¬ (n : Int) < 0 := by omega
  have hk5 : (10 : Nat) ^ (k + 1 + 1) ≤ 10 ^ 5 := Nat.pow_le_pow_right (by decide) (by omega)
  have ht : (n : Int).tmod 10 = ((n % 10 : Nat) : Int) := by rw [Int.tmod_eq_emod_of_nonneg (by omega)]; rfl
  have w1 : IntKind.i64.wrap (48 + ((n % 10 : Nat) : Int)) = 48 + ((n % 10 : Nat) : Int) := wrap_in (by omega) (by omega)
  have w2 : IntKind.u8.wrap (48 + ((n % 10 : Nat) : Int)) = 48 + ((n % 10 : Nat) : Int) := by rw [IntKind.wrap_u8]; omega
  have hs : strOfNums [48 + ((n % 10 : Nat) : Int)] = ⟨#[UInt8.ofNat (48 + n % 10)]⟩ := by
   unfold strOfNums
   rw [List.map_cons, List.map_nil, show (48 + ((n % 10 : Nat) : Int)).toNat = 48 + n % 10 by omega]
  by_cases hn : n < 10
  ·have e : txtF (k + 1 + 1) n = [UInt8.ofNat (48 + n % 10)] := by rw [txtF, if_pos hn, Nat.mod_eq_of_lt hn]
   rw [e]
   have h2 : ¬ (n : Int) ≥ 10 := by omega
   obtain ⟨m, hm⟩ : ∃ m, n % 10 = m := ⟨_, rfl⟩
   rw [hm] at ht w1 w2 hs ⊢
   refine pcalls_by Tryd.mixes (Spec.gdt_ok noSpec_ok) (fn := Tryd.f50) Tryd.func50 rfl (by kernel_rfl) (by show 1 ≤ _; decide) ?_
   simp +decide -implicitDefEqProofs (maxSteps := 4000000) only [go_sem, Tryd.f50, h1, h2, ht, w1, w2, hs]
  ·have e : txtF (k + 1 + 1) n = txtF (k + 1) (n / 10) ++ [UInt8.ofNat (48 + n % 10)] := by rw [txtF, if_neg hn]
   have hdl : n / 10 < 10 ^ (k + 1) := by
    rw [Nat.pow_succ] at h
    exact Nat.div_lt_of_lt_mul (by rw [Nat.mul_comm]; exact h)
   have hrec := ih (n / 10) (by omega) hdl
   have hlen := (txtF_ok k (n / 10) hdl).1.2
   have h2 : (n : Int) ≥ 10 := by omega
   have hq : (n : Int).tdiv 10 = ((n / 10 : Nat) : Int) := by rw [Int.tdiv_eq_ediv_of_nonneg (by omega)]; rfl
   have w3 : IntKind.i64.wrap ((n / 10 : Nat) : Int) = ((n / 10 : Nat) : Int) := wrap_in (by omega) (by omega)
   rw [e]
   obtain ⟨L, hL⟩ : ∃ L, txtF (k + 1) (n / 10) = L := ⟨_, rfl⟩
   rw [hL] at hrec hlen ⊢
   have hz : (ByteArray.mk L.toArray).size + (ByteArray.mk #[UInt8.ofNat (48 + n % 10)]).size ≤ 4294967296 := by
    have a1 : (ByteArray.mk L.toArray).size = L.length := List.size_toArray
    have a2 : (ByteArray.mk #[UInt8.ofNat (48 + n % 10)]).size = 1 := rfl
    omega
   have hz1 : (ByteArray.mk L.toArray).size ≤ 4294967295 := by
    have a1 : (ByteArray.mk L.toArray).size = L.length := List.size_toArray
    omega
   have hz2 : L.length ≤ 4294967295 := by omega
   have ha : (ByteArray.mk L.toArray) ++ (ByteArray.mk #[UInt8.ofNat (48 + n % 10)]) = ⟨(L ++ [UInt8.ofNat (48 + n % 10)]).toArray⟩ := baL_app L _
   obtain ⟨d, hd⟩ : ∃ d, n / 10 = d := ⟨_, rfl⟩
   obtain ⟨m, hm⟩ : ∃ m, n % 10 = m := ⟨_, rfl⟩
   rw [hd] at hq w3 hrec
   rw [hm] at ht w1 w2 hs hz ha ⊢
   refine pcalls_by Tryd.mixes (Spec.gdt_ok (Spec.one_ok (oneP_ok hrec) noSpec_ok)) (fn := Tryd.f50) Tryd.func50 rfl (by kernel_rfl) (by show 1 ≤ _; decide) ?_
   simp +decide -implicitDefEqProofs (maxSteps := 4000000) only [go_sem, Tryd.f50, h1, h2, ht, w1, w2, hs, hq, w3, hz, hz1, hz2, ha]
end Go.Proofs.YtdkboibnokipaaaDoor

namespace Go.Ow
open Go Go.RowKit Go.Pm
def idxF {α : Type} (p : α → Bool) : Nat → List α → Int
 | _, [] => -1
 | k, x :: l => if p x = true then (k : Int) else idxF p (k + 1) l
theorem idxF_cons {α : Type} (p : α → Bool) (k : Nat) (x : α) (l : List α) : idxF p k (x :: l) = if p x = true then (k : Int) else idxF p (k + 1) l := rfl
theorem idxF_any {α : Type} (p : α → Bool) : ∀ (l : List α) (k : Nat), decide (idxF p k l ≥ 0) = l.any p
 | [], k => rfl
 | x :: l, k => by
  rw [idxF_cons, List.any_cons]
  by_cases h : p x = true
  ·rw [if_pos h, h]; simp
  ·rw [if_neg h, idxF_any p l (k + 1)]
   have : p x = false := by simpa using h
   rw [this]; rfl
def menL (l : List (Int × Int)) : List TV := l.flatMap fun m => [.int .i64 m.1, .int .i64 m.2]
theorem menL_cons (r : Int × Int) (l : List (Int × Int)) : menL (r :: l) = [.int .i64 r.1, .int .i64 r.2] ++ menL l := by simp [menL]
theorem menL_drop : ∀ (l : List (Int × Int)) (k : Nat), (menL l).drop (k * 2) = menL (l.drop k)
 | l, 0 => by simp
 | [], k + 1 => by simp [menL]
 | r :: l, k + 1 => by
  rw [menL_cons, List.drop_succ_cons, ← menL_drop l k]
  have e : (k + 1) * 2 = 2 + k * 2 := by omega
  rw [e, ← List.drop_drop]
  rfl
theorem menL_at {l : List (Int × Int)} {k : Nat} {r : Int × Int} (h : l[k]? = some r) : (menL l).drop (k * 2) = .int .i64 r.1 :: .int .i64 r.2 :: menL (l.drop (k + 1)) := by
 rw [menL_drop]
 have hk := (List.getElem?_eq_some_iff.1 h).1
 rw [List.drop_eq_getElem_cons hk, menL_cons]
 have := List.getElem?_eq_getElem hk
 rw [h] at this
 rw [← Option.some.inj this]
 rfl
theorem menL_len (l : List (Int × Int)) : (menL l).length = l.length * 2 := by
 induction l with
 | nil => rfl
 | cons r l ih => rw [menL_cons, List.length_append, ih]; simp; omega
def menR (X : TV) (l : List (Int × Int)) : Prop := (X = .nilSl ∧ l = []) ∨ ∃ f, X = .sl (menL l) l.length f
def manB (m : Int × Int) : Bool := inW m.1 0 65535 && inW m.2 0 10000
def tasksB (M : List (Int × Int)) (T : List Int) : Bool := decide ((M.length : Int) ≤ 8) && (decide ((T.length : Int) ≤ 8) && (M.all manB && T.all fun t => inW t 0 15))
theorem any_not {α : Type} (p : α → Bool) : ∀ l : List α, (l.any fun x => !p x) = !l.all p
 | [] => rfl
 | x :: l => by rw [List.any_cons, List.all_cons, any_not p l]; cases p x <;> rfl
def sumW : Int → List Int → Int
 | a, [] => a
 | a, x :: l => sumW (IntKind.i64.wrap (a + x)) l
def hasP (s t : Int) : Bool := IntKind.i64.wrap ((BitVec.ofInt 64 (s.fdiv (2 ^ (min t.toNat 64))) &&& BitVec.ofInt 64 1).toNat : Int) == 1
def lT (l : List Int) : TV := if l.length = 0 then .nilSl else .sl (l.map (.int .i64)) l.length false
theorem lT_R (l : List Int) : inR (lT l) l := by
 unfold lT
 by_cases h : l.length = 0
 ·rw [if_pos h]; exact .inl ⟨rfl, List.length_eq_zero_iff.1 h⟩
 ·rw [if_neg h]; exact .inr ⟨_, rfl⟩
theorem map_int_inj : ∀ {a b : List Int}, a.map (TV.int .i64) = b.map (TV.int .i64) → a = b
 | [], [], _ => rfl
 | x :: a, y :: b, h => by
  simp only [List.map_cons, List.cons.injEq, TV.int.injEq, true_and] at h
  rw [h.1, map_int_inj h.2]
 | [], _ :: _, h => by simp at h
 | _ :: _, [], h => by simp at h
theorem inR_inj {X : TV} {a b : List Int} (h : inR X a) (h' : inR X b) : a = b := by
 rcases h with ⟨rfl, rfl⟩ | ⟨f, rfl⟩
 ·rcases h' with ⟨_, rfl⟩ | ⟨g, e⟩
  ·rfl
  ·cases e
 ·rcases h' with ⟨e, _⟩ | ⟨g, e⟩
  ·cases e
  ·exact map_int_inj (TV.sl.inj e).1
end Go.Ow
namespace Go.Proofs.YtdkboibnokipaaaDoor
open Go.RowKit Go.Pm Go.Ow
theorem hWithin_c (n lo hi : Int) : PCalls Tryd.prog 101 [.int .i64 n, .int .i64 lo, .int .i64 hi] (.bool (inW n lo hi)) := by
 refine pcalls_by Tryd.mixes noSpec_ok (fn := Tryd.f101) Tryd.func101 rfl (by kernel_rfl) (by show 3 ≤ _; decide) ?_
 simp +decide -implicitDefEqProofs (maxSteps := 4000000) only [go_sem, Tryd.f101, inW]
noncomputable def hWithin : List TV → Option TV
 | [.int .i64 n, .int .i64 lo, .int .i64 hi] => some (.bool (inW n lo hi))
 | _ => none
theorem hWithin_ok : ∀ xs r, hWithin xs = some r → PCalls Tryd.prog 101 xs r := by
 intro xs r h
 unfold hWithin at h
 split at h
 ·cases h; exact hWithin_c _ _ _
 ·cases h
attribute [go_sem] hWithin
noncomputable def spTa : Pm.Spec := (noSpec.one 101 hWithin).gdt
theorem spTa_ok : SpecOk Tryd.prog spTa := Spec.gdt_ok (Spec.one_ok hWithin_ok noSpec_ok)
theorem hBadT_c (n : Int) : PCalls Tryd.prog 103 [.int .i64 n] (.bool (!inW n 0 15)) := by
 refine pcalls_by Tryd.mixes spTa_ok (fn := Tryd.f103) Tryd.func103 rfl (by kernel_rfl) (by show 1 ≤ _; decide) ?_
 simp +decide -implicitDefEqProofs (maxSteps := 4000000) only [go_sem, Tryd.f103, spTa]
noncomputable def hBadT : List TV → Option TV
 | [.int .i64 n] => some (.bool (!inW n 0 15))
 | _ => none
theorem hBadT_ok : ∀ xs r, hBadT xs = some r → PCalls Tryd.prog 103 xs r := by
 intro xs r h
 unfold hBadT at h
 split at h
 ·cases h; exact hBadT_c _
 ·cases h
attribute [go_sem] hBadT
theorem hBadM_c (m : Int × Int) : PCalls Tryd.prog 100 [.agg [.int .i64 m.1, .int .i64 m.2]] (.bool (!manB m)) := by
 have e : manB m = (inW m.1 0 65535 && inW m.2 0 10000) := rfl
 refine pcalls_by Tryd.mixes spTa_ok (fn := Tryd.f100) Tryd.func100 rfl (by kernel_rfl) (by show 1 ≤ _; decide) ?_
 cases h1 : inW m.1 0 65535 <;> cases h2 : inW m.2 0 10000 <;> rw [h1, h2] at e <;> simp +decide -implicitDefEqProofs (maxSteps := 4000000) only [go_sem, Tryd.f100, spTa, h1, h2, e]
 all_goals first | done | trace_state
noncomputable def hBadM : List TV → Option TV
 | [.agg [.int .i64 a, .int .i64 b]] => some (.bool (!manB (a, b)))
 | _ => none
theorem hBadM_ok : ∀ xs r, hBadM xs = some r → PCalls Tryd.prog 100 xs r := by
 intro xs r h
 unfold hBadM at h
 split at h
 ·cases h; exact hBadM_c (_, _)
 ·cases h
attribute [go_sem] hBadM
noncomputable def spTi : Pm.Spec := (noSpec.one 103 hBadT).one 100 hBadM
theorem spTi_ok : SpecOk Tryd.prog spTi := Spec.one_ok hBadM_ok (Spec.one_ok hBadT_ok noSpec_ok)
theorem hIdxT_c {l : List Int} {s : TV} (hs : inR s l) (hl : l.length ≤ 1000000) : PCalls Tryd.prog 127 [s, .fn 103 [] []] (.int .i64 (idxF (fun t => !inW t 0 15) 0 l)) := by
 refine pcalls_by Tryd.mixes spTi_ok (fn := Tryd.f127) Tryd.func127 rfl (by kernel_rfl) (by show 2 ≤ _; decide) ?_
 rcases hs with ⟨rfl, rfl⟩ | ⟨f, rfl⟩
 ·simp +decide -implicitDefEqProofs (maxSteps := 4000000) only [go_sem, Tryd.f127, spTi]
  refine pwpC_loopU (A := Unit) [0, 1, 4, 7] (fun _ => [(8, .t (.int .i64 0))]) (fun _ => []) (fun _ => 0) () (by decide) (fun _ => by rfl) ?_ fun Q1 hQ1 _ I1 hI1 => ?_
  ·simp +decide -implicitDefEqProofs (maxSteps := 4000000) only [go_sem]
  ·simp +decide -implicitDefEqProofs (maxSteps := 4000000) only [go_sem]
   refine hQ1 _ _ ?_
   simp +decide -implicitDefEqProofs (maxSteps := 4000000) only [go_sem]
   first | done | rfl
 ·simp +decide -implicitDefEqProofs (maxSteps := 4000000) only [go_sem, Tryd.f127, spTi]
  refine pwpC_loopU (A := { k : Nat // k ≤ l.length ∧ idxF (fun t => !inW t 0 15) k (l.drop k) = idxF (fun t => !inW t 0 15) 0 l }) [0, 1, 4, 7] (fun k => [(8, .t (.int .i64 k.1))]) (fun _ => []) (fun k => l.length - k.1) ⟨0, by omega, by rw [List.drop_zero]⟩ (by decide) (fun _ => by rfl) ?_ fun Q1 hQ1 ⟨k, hk, he⟩ I1 hI1 => ?_
  ·simp +decide -implicitDefEqProofs (maxSteps := 4000000) only [go_sem]
  ·by_cases hlt : (k : Int) < l.length
   ·obtain ⟨x, hx⟩ : ∃ x, l[k]? = some x := ⟨_, List.getElem?_eq_getElem (by omega)⟩
    have d1 := Go.Ow.ints_at hx
    have hdk : l.drop k = x :: l.drop (k + 1) := by rw [List.drop_eq_getElem_cons (by omega)]; rw [List.getElem?_eq_getElem (by omega)] at hx; cases hx; rfl
    have hw := Go.Pm.wS (k := k) (by omega)
    rw [hdk, idxF_cons] at he
    cases hb : inW x 0 15 with
    | false =>
     rw [hb] at he
     simp only [Bool.not_false, if_true] at he
     simp +decide -implicitDefEqProofs (maxSteps := 4000000) only [go_sem, spTi, hlt, d1, hb, Nat.mul_one]
     try (refine hQ1 _ _ ?_)
     try simp +decide -implicitDefEqProofs (maxSteps := 4000000) only [go_sem, ← he]
    | true =>
     rw [hb] at he
     simp only [Bool.not_true, Bool.false_eq_true, if_false] at he
     simp +decide -implicitDefEqProofs (maxSteps := 4000000) only [go_sem, spTi, hlt, d1, hb, Nat.mul_one]
     refine hI1 _ ⟨k + 1, by omega, he⟩ (by simp only; omega) ?_
     simp +decide -implicitDefEqProofs (maxSteps := 4000000) only [go_sem, hw]
   ·have hke : k = l.length := by omega
    subst hke
    rw [List.drop_length] at he
    have e : idxF (fun t => !inW t 0 15) 0 l = -1 := he.symm
    simp +decide -implicitDefEqProofs (maxSteps := 4000000) only [go_sem, hlt]
    refine hQ1 _ _ ?_
    simp +decide -implicitDefEqProofs (maxSteps := 4000000) only [go_sem, e]
theorem hConT_c {l : List Int} {s : TV} (hs : inR s l) (hl : l.length ≤ 1000000) : PCalls Tryd.prog 102 [s, .fn 103 [] []] (.bool (!l.all fun t => inW t 0 15)) := by
 have hb := idxF_any (fun t => !inW t 0 15) l 0
 rw [any_not] at hb
 refine pcalls_by Tryd.mixes (Spec.one_ok (oneP_ok (hIdxT_c hs hl)) noSpec_ok) (fn := Tryd.f102) Tryd.func102 rfl (by kernel_rfl) (by show 2 ≤ _; decide) ?_
 simp +decide -implicitDefEqProofs (maxSteps := 4000000) only [go_sem, Tryd.f102, hb]
theorem hIdxM_c {l : List (Int × Int)} {s : TV} (hs : menR s l) (hl : l.length ≤ 1000000) : PCalls Tryd.prog 126 [s, .fn 100 [] []] (.int .i64 (idxF (fun m => !manB m) 0 l)) := by
 refine pcalls_by Tryd.mixes spTi_ok (fn := Tryd.f126) Tryd.func126 rfl (by kernel_rfl) (by show 2 ≤ _; decide) ?_
 have hln := menL_len l
 rcases hs with ⟨rfl, rfl⟩ | ⟨f, rfl⟩
 ·simp +decide -implicitDefEqProofs (maxSteps := 4000000) only [go_sem, Tryd.f126, spTi]
  refine pwpC_loopU (A := Unit) [0, 1, 4, 7] (fun _ => [(8, .t (.int .i64 0))]) (fun _ => []) (fun _ => 0) () (by decide) (fun _ => by rfl) ?_ fun Q1 hQ1 _ I1 hI1 => ?_
  ·simp +decide -implicitDefEqProofs (maxSteps := 4000000) only [go_sem]
  ·simp +decide -implicitDefEqProofs (maxSteps := 4000000) only [go_sem]
   refine hQ1 _ _ ?_
   simp +decide -implicitDefEqProofs (maxSteps := 4000000) only [go_sem]
   first | done | rfl
 ·simp +decide -implicitDefEqProofs (maxSteps := 4000000) only [go_sem, Tryd.f126, spTi]
  refine pwpC_loopU (A := { k : Nat // k ≤ l.length ∧ idxF (fun m => !manB m) k (l.drop k) = idxF (fun m => !manB m) 0 l }) [0, 1, 4, 7] (fun k => [(8, .t (.int .i64 k.1))]) (fun _ => []) (fun k => l.length - k.1) ⟨0, by omega, by rw [List.drop_zero]⟩ (by decide) (fun _ => by rfl) ?_ fun Q1 hQ1 ⟨k, hk, he⟩ I1 hI1 => ?_
  ·simp +decide -implicitDefEqProofs (maxSteps := 4000000) only [go_sem]
  ·by_cases hlt : (k : Int) < l.length
   ·obtain ⟨⟨a, b⟩, hx⟩ : ∃ x, l[k]? = some x := ⟨_, List.getElem?_eq_getElem (by omega)⟩
    have d1 := menL_at hx
    have hle : k * 2 + 2 ≤ (menL l).length := by rw [hln]; omega
    have hdk : l.drop k = (a, b) :: l.drop (k + 1) := by rw [List.drop_eq_getElem_cons (by omega)]; rw [List.getElem?_eq_getElem (by omega)] at hx; rw [Option.some.inj hx]
    have hw := Go.Pm.wS (k := k) (by omega)
    rw [hdk, idxF_cons] at he
    simp only at d1
    cases hb : manB (a, b) with
    | false =>
     rw [hb] at he
     simp only [Bool.not_false, if_true] at he
     simp +decide -implicitDefEqProofs (maxSteps := 4000000) only [go_sem, spTi, hlt, d1, hb, hle, Nat.mul_one]
     try (refine hQ1 _ _ ?_)
     try simp +decide -implicitDefEqProofs (maxSteps := 4000000) only [go_sem, ← he]
    | true =>
     rw [hb] at he
     simp only [Bool.not_true, Bool.false_eq_true, if_false] at he
     simp +decide -implicitDefEqProofs (maxSteps := 4000000) only [go_sem, spTi, hlt, d1, hb, hle, Nat.mul_one]
     refine hI1 _ ⟨k + 1, by omega, he⟩ (by simp only; omega) ?_
     simp +decide -implicitDefEqProofs (maxSteps := 4000000) only [go_sem, hw]
   ·have hke : k = l.length := by omega
    subst hke
    rw [List.drop_length] at he
    have e : idxF (fun m => !manB m) 0 l = -1 := he.symm
    simp +decide -implicitDefEqProofs (maxSteps := 4000000) only [go_sem, hlt]
    refine hQ1 _ _ ?_
    simp +decide -implicitDefEqProofs (maxSteps := 4000000) only [go_sem, e]
theorem hConM_c {l : List (Int × Int)} {s : TV} (hs : menR s l) (hl : l.length ≤ 1000000) : PCalls Tryd.prog 99 [s, .fn 100 [] []] (.bool (!l.all manB)) := by
 have hb := idxF_any (fun m => !manB m) l 0
 rw [any_not] at hb
 refine pcalls_by Tryd.mixes (Spec.one_ok (oneP_ok (hIdxM_c hs hl)) noSpec_ok) (fn := Tryd.f99) Tryd.func99 rfl (by kernel_rfl) (by show 2 ≤ _; decide) ?_
 simp +decide -implicitDefEqProofs (maxSteps := 4000000) only [go_sem, Tryd.f99, hb]
theorem hTasks_c {M : List (Int × Int)} {T : List Int} {s t : TV} (hs : menR s M) (ht : inR t T) : PCalls Tryd.prog 78 [s, t] (.bool (tasksB M T)) := by
 by_cases h1 : (M.length : Int) ≤ 8
 rotate_left
 ·have e : tasksB M T = false := by unfold tasksB; rw [decide_eq_false h1]; rfl
  refine pcalls_by Tryd.mixes (Spec.gdt_ok noSpec_ok) (fn := Tryd.f78) Tryd.func78 rfl (by kernel_rfl) (by show 2 ≤ _; decide) ?_
  rcases hs with ⟨rfl, rfl⟩ | ⟨f, rfl⟩
  ·exact absurd (by simp) h1
  ·simp +decide -implicitDefEqProofs (maxSteps := 4000000) only [go_sem, Tryd.f78, h1, e]
 by_cases h2 : (T.length : Int) ≤ 8
 rotate_left
 ·have e : tasksB M T = false := by unfold tasksB; rw [decide_eq_false h2]; simp
  refine pcalls_by Tryd.mixes (Spec.gdt_ok noSpec_ok) (fn := Tryd.f78) Tryd.func78 rfl (by kernel_rfl) (by show 2 ≤ _; decide) ?_
  rcases ht with ⟨rfl, rfl⟩ | ⟨g, rfl⟩
  ·exact absurd (by simp) h2
  ·rcases hs with ⟨rfl, rfl⟩ | ⟨f, rfl⟩
   ·simp +decide -implicitDefEqProofs (maxSteps := 4000000) only [go_sem, Tryd.f78, h1, h2, e]
   ·simp +decide -implicitDefEqProofs (maxSteps := 4000000) only [go_sem, Tryd.f78, h1, h2, e]
 have hM := hConM_c hs (by omega)
 have hT := hConT_c ht (by omega)
 have e : tasksB M T = (M.all manB && T.all fun t => inW t 0 15) := by unfold tasksB; rw [decide_eq_true h1, decide_eq_true h2]; rfl
 obtain ⟨a, ha⟩ : ∃ a, M.all manB = a := ⟨_, rfl⟩
 obtain ⟨b, hb⟩ : ∃ b, (T.all fun t => inW t 0 15) = b := ⟨_, rfl⟩
 rw [ha, hb] at e
 rw [ha] at hM
 rw [hb] at hT
 refine pcalls_by Tryd.mixes (Spec.gdt_ok (Spec.one_ok (oneP_ok hM) (Spec.one_ok (oneP_ok hT) noSpec_ok))) (fn := Tryd.f78) Tryd.func78 rfl (by kernel_rfl) (by show 2 ≤ _; decide) ?_
 rcases hs with ⟨rfl, rfl⟩ | ⟨f, rfl⟩ <;> rcases ht with ⟨rfl, rfl⟩ | ⟨g, rfl⟩ <;> cases a <;> cases b <;> simp +decide -implicitDefEqProofs (maxSteps := 4000000) only [go_sem, Tryd.f78, h1, h2, e]
 all_goals first | done | trace_state
theorem hHas_c {a b t : Int} (ht : 0 ≤ t) : PCalls Tryd.prog 107 [.agg [.int .i64 a, .int .i64 b], .int .i64 t] (.bool (hasP a t)) := by
 have h0 : ¬ t < 0 := by omega
 refine pcalls_by Tryd.mixes noSpec_ok (fn := Tryd.f107) Tryd.func107 rfl (by kernel_rfl) (by show 2 ≤ _; decide) ?_
 simp +decide -implicitDefEqProofs (maxSteps := 4000000) only [go_sem, Tryd.f107, hasP, h0]
 first | done | rfl | trace_state
noncomputable def hHas : List TV → Option TV
 | [.agg [.int .i64 a, .int .i64 b], .int .i64 t] => if 0 ≤ t then some (.bool (hasP a t)) else none
 | _ => none
theorem hHas_ok : ∀ xs r, hHas xs = some r → PCalls Tryd.prog 107 xs r := by
 intro xs r h
 unfold hHas at h
 split at h
 ·split at h
  ·rename_i hc; cases h; exact hHas_c hc
  ·cases h
 ·cases h
attribute [go_sem] hHas
theorem sumW_drop {l : List Int} {k : Nat} {x : Int} (h : l[k]? = some x) (a : Int) : sumW a (l.drop k) = sumW (IntKind.i64.wrap (a + x)) (l.drop (k + 1)) := by
 have hk := (List.getElem?_eq_some_iff.1 h).1
 rw [List.drop_eq_getElem_cons hk]
 have := List.getElem?_eq_getElem hk
 rw [h] at this
 rw [← Option.some.inj this]; rfl
theorem hSum_c {l : List Int} {s : TV} (hs : inR s l) (hl : l.length ≤ 1000000) : PCalls Tryd.prog 105 [s] (.int .i64 (sumW 0 l)) := by
 refine pcalls_by Tryd.mixes noSpec_ok (fn := Tryd.f105) Tryd.func105 rfl (by kernel_rfl) (by show 1 ≤ _; decide) ?_
 rcases hs with ⟨rfl, rfl⟩ | ⟨f, rfl⟩
 ·simp +decide -implicitDefEqProofs (maxSteps := 4000000) only [go_sem, Tryd.f105]
  refine pwpC_loopU (A := Unit) [5, 6, 2] (fun _ => [(7, .t (.int .i64 0))]) (fun _ => []) (fun _ => 0) () (by decide) (fun _ => by rfl) ?_ fun Q1 hQ1 _ I1 hI1 => ?_
  ·simp +decide -implicitDefEqProofs (maxSteps := 4000000) only [go_sem]
  ·simp +decide -implicitDefEqProofs (maxSteps := 4000000) only [go_sem]
   refine hQ1 _ _ ?_
   simp +decide -implicitDefEqProofs (maxSteps := 4000000) only [go_sem, sumW]
   first | done | rfl
 ·simp +decide -implicitDefEqProofs (maxSteps := 4000000) only [go_sem, Tryd.f105]
  refine pwpC_loopU (A := { x : Nat × Int // x.1 ≤ l.length ∧ sumW x.2 (l.drop x.1) = sumW 0 l }) [5, 6] (fun x => [(7, .t (.int .i64 x.1.1)), (2, .t (.int .i64 x.1.2))]) (fun _ => []) (fun x => l.length - x.1.1) ⟨(0, 0), by omega, by rw [List.drop_zero]⟩ (by decide) (fun _ => by rfl) ?_ fun Q1 hQ1 ⟨⟨k, a⟩, hk, he⟩ I1 hI1 => ?_
  ·simp +decide -implicitDefEqProofs (maxSteps := 4000000) only [go_sem]
  ·simp only at hk he
   by_cases hlt : (k : Int) < l.length
   ·obtain ⟨x, hx⟩ : ∃ x, l[k]? = some x := ⟨_, List.getElem?_eq_getElem (by omega)⟩
    have d1 := Go.Ow.ints_at hx
    have hw := Go.Pm.wS (k := k) (by omega)
    rw [sumW_drop hx] at he
    simp +decide -implicitDefEqProofs (maxSteps := 4000000) only [go_sem, hlt, d1, Nat.mul_one]
    refine hI1 _ ⟨(k + 1, IntKind.i64.wrap (a + x)), by simp only; omega, he⟩ (by simp only; omega) ?_
    simp +decide -implicitDefEqProofs (maxSteps := 4000000) only [go_sem, hw]
   ·have hke : k = l.length := by omega
    subst hke
    rw [List.drop_length] at he
    have e : sumW 0 l = a := he.symm
    simp +decide -implicitDefEqProofs (maxSteps := 4000000) only [go_sem, hlt]
    refine hQ1 _ _ ?_
    simp +decide -implicitDefEqProofs (maxSteps := 4000000) only [go_sem, e]
theorem hClone_c {l : List Int} {f : Bool} (h1 : 1 ≤ l.length) (hl : l.length ≤ 1000) : PCalls Tryd.prog 106 [.sl (l.map (.int .i64)) l.length f] (lT l) := by
 have h8 : l.length * 8 ≤ 140737488355328 := by omega
 have hln : (l.map (TV.int .i64)).length = l.length := List.length_map _
 have h0 : ¬ l.length = 0 := by omega
 have e : lT l = .sl (l.map (.int .i64)) l.length false := by unfold lT; rw [if_neg h0]
 rw [e]
 refine pcalls_by Tryd.mixes noSpec_ok (fn := Tryd.f106) Tryd.func106 rfl (by kernel_rfl) (by show 1 ≤ _; decide) ?_
 simp +decide -implicitDefEqProofs (maxSteps := 4000000) only [go_sem, Tryd.f106, h0, h8, hln, Nat.mul_one, allO_ts]
theorem hCloneNil_c : PCalls Tryd.prog 106 [.nilSl] .nilSl := by
 refine pcalls_by Tryd.mixes noSpec_ok (fn := Tryd.f106) Tryd.func106 rfl (by kernel_rfl) (by show 1 ≤ _; decide) ?_
 simp +decide -implicitDefEqProofs (maxSteps := 4000000) only [go_sem, Tryd.f106]
theorem hIndex_c {l : List Int} {s : TV} (hs : inR s l) (hl : l.length ≤ 1000000) (v : Int) : PCalls Tryd.prog 128 [s, .int .i64 v] (.int .i64 (idxF (fun x => v == x) 0 l)) := by
 refine pcalls_by Tryd.mixes noSpec_ok (fn := Tryd.f128) Tryd.func128 rfl (by kernel_rfl) (by show 2 ≤ _; decide) ?_
 rcases hs with ⟨rfl, rfl⟩ | ⟨f, rfl⟩
 ·simp +decide -implicitDefEqProofs (maxSteps := 4000000) only [go_sem, Tryd.f128]
  refine pwpC_loopU (A := Unit) [0, 1, 4, 7] (fun _ => [(8, .t (.int .i64 0))]) (fun _ => []) (fun _ => 0) () (by decide) (fun _ => by rfl) ?_ fun Q1 hQ1 _ I1 hI1 => ?_
  ·simp +decide -implicitDefEqProofs (maxSteps := 4000000) only [go_sem]
  ·simp +decide -implicitDefEqProofs (maxSteps := 4000000) only [go_sem]
   refine hQ1 _ _ ?_
   simp +decide -implicitDefEqProofs (maxSteps := 4000000) only [go_sem]
   first | done | rfl
 ·simp +decide -implicitDefEqProofs (maxSteps := 4000000) only [go_sem, Tryd.f128]
  refine pwpC_loopU (A := { k : Nat // k ≤ l.length ∧ idxF (fun x => v == x) k (l.drop k) = idxF (fun x => v == x) 0 l }) [0, 1, 4, 7] (fun k => [(8, .t (.int .i64 k.1))]) (fun _ => []) (fun k => l.length - k.1) ⟨0, by omega, by rw [List.drop_zero]⟩ (by decide) (fun _ => by rfl) ?_ fun Q1 hQ1 ⟨k, hk, he⟩ I1 hI1 => ?_
  ·simp +decide -implicitDefEqProofs (maxSteps := 4000000) only [go_sem]
  ·by_cases hlt : (k : Int) < l.length
   ·obtain ⟨x, hx⟩ : ∃ x, l[k]? = some x := ⟨_, List.getElem?_eq_getElem (by omega)⟩
    have d1 := Go.Ow.ints_at hx
    have hdk : l.drop k = x :: l.drop (k + 1) := by rw [List.drop_eq_getElem_cons (by omega)]; rw [List.getElem?_eq_getElem (by omega)] at hx; cases hx; rfl
    have hw := Go.Pm.wS (k := k) (by omega)
    rw [hdk, idxF_cons] at he
    cases hb : (v == x) with
    | true =>
     rw [hb, if_pos rfl] at he
     simp +decide -implicitDefEqProofs (maxSteps := 4000000) only [go_sem, hlt, d1, hb, Nat.mul_one]
     try (refine hQ1 _ _ ?_)
     try simp +decide -implicitDefEqProofs (maxSteps := 4000000) only [go_sem, ← he]
    | false =>
     rw [hb, if_neg Bool.false_ne_true] at he
     simp +decide -implicitDefEqProofs (maxSteps := 4000000) only [go_sem, hlt, d1, hb, Nat.mul_one]
     refine hI1 _ ⟨k + 1, by omega, he⟩ (by simp only; omega) ?_
     simp +decide -implicitDefEqProofs (maxSteps := 4000000) only [go_sem, hw]
   ·have hke : k = l.length := by omega
    subst hke
    rw [List.drop_length] at he
    have e : idxF (fun x => v == x) 0 l = -1 := he.symm
    simp +decide -implicitDefEqProofs (maxSteps := 4000000) only [go_sem, hlt]
    refine hQ1 _ _ ?_
    simp +decide -implicitDefEqProofs (maxSteps := 4000000) only [go_sem, e]
theorem hHolds_c {l : List Int} {s : TV} (hs : inR s l) (hl : l.length ≤ 1000000) (v : Int) : PCalls Tryd.prog 108 [s, .int .i64 v] (.bool (l.any fun x => v == x)) := by
 have hb := idxF_any (fun x => v == x) l 0
 refine pcalls_by Tryd.mixes (Spec.one_ok (oneP_ok (hIndex_c hs hl v)) noSpec_ok) (fn := Tryd.f108) Tryd.func108 rfl (by kernel_rfl) (by show 2 ≤ _; decide) ?_
 simp +decide -implicitDefEqProofs (maxSteps := 4000000) only [go_sem, Tryd.f108, hb]
end Go.Proofs.YtdkboibnokipaaaDoor

namespace Go.Ow
open Go Go.RowKit Go.Pm
def wageP (M : List (Int × Int)) (m : Int) : Int := (M.getD m.toNat (0, 0)).2
abbrev SJ := List Int × Int × Bool
def leafJ (M : List (Int × Int)) (l : List Int) (s : SJ) : SJ := if (!s.2.2 || decide (sumW 0 (l.map (wageP M)) < s.2.1)) = true then (l, sumW 0 (l.map (wageP M)), true) else s
def skipJ (M : List (Int × Int)) (T l : List Int) (m : Nat) : Bool := !hasP (M.getD m (0, 0)).1 (T.getD l.length 0) || l.any fun x => (m : Int) == x
def loopJ (g : List Int → SJ → SJ) (M : List (Int × Int)) (T l : List Int) (s : SJ) : Nat → SJ
 | 0 => s
 | k + 1 => if skipJ M T l k = true then loopJ g M T l s k else g (l ++ [(k : Int)]) (loopJ g M T l s k)
theorem loopJ_succ (g : List Int → SJ → SJ) (M : List (Int × Int)) (T l : List Int) (s : SJ) (k : Nat) : loopJ g M T l s (k + 1) = if skipJ M T l k = true then loopJ g M T l s k else g (l ++ [(k : Int)]) (loopJ g M T l s k) := rfl
def joinP (M : List (Int × Int)) (T : List Int) : Nat → List Int → SJ → SJ
 | 0 => leafJ M
 | d + 1 => fun l s => loopJ (joinP M T d) M T l s M.length
def postsOk (M : List (Int × Int)) (T : List Int) (s : SJ) : Prop := s.2.2 = true → s.1.length = T.length ∧ s.1.Nodup ∧ ∀ x ∈ s.1, 0 ≤ x ∧ x < M.length
theorem joinP_ok (M : List (Int × Int)) (T : List Int) : ∀ (d : Nat) (l : List Int) (s : SJ), l.length + d = T.length → l.Nodup → (∀ x ∈ l, 0 ≤ x ∧ x < M.length) → postsOk M T s → postsOk M T (joinP M T d l s)
 | 0, l, s, hl, hn, hr, hs => by
  show postsOk M T (leafJ M l s)
  unfold leafJ
  split
  ·exact fun _ => ⟨by simpa using hl, hn, hr⟩
  ·exact hs
 | d + 1, l, s, hl, hn, hr, hs => by
  show postsOk M T (loopJ (joinP M T d) M T l s M.length)
  have h : ∀ k, k ≤ M.length → postsOk M T (loopJ (joinP M T d) M T l s k) := by
   intro k
   induction k with
   | zero => exact fun _ => hs
   | succ k ih =>
    intro hk
    rw [loopJ_succ]
    split
    ·exact ih (by omega)
    ·rename_i hsk
     unfold skipJ at hsk
     rw [Bool.or_eq_true, not_or, Bool.not_eq_true, Bool.not_eq_true, List.any_eq_false] at hsk
     have hni : (k : Int) ∉ l := fun e => by simpa using hsk.2 _ e
     refine joinP_ok M T d _ _ (by simp; omega) (by
      rw [List.nodup_append]
      exact ⟨hn, by simp, fun a ha b hb => by rw [List.mem_singleton] at hb; subst hb; intro e; subst e; exact hni ha⟩) (fun x hx => ?_) (ih (by omega))
     rcases List.mem_append.1 hx with hx | hx
     ·exact hr x hx
     ·rw [List.mem_singleton] at hx; subst hx; omega
  exact h _ (Nat.le_refl _)
open Classical in
noncomputable def unR (t : TV) : Option (List Int) := if h : ∃ l, t = lT l then some (Classical.choose h) else none
theorem lT_inj {a b : List Int} (h : lT a = lT b) : a = b := inR_inj (h ▸ lT_R a) (lT_R b)
theorem unR_eq (l : List Int) : unR (lT l) = some l := by
 have h : ∃ l', lT l = lT l' := ⟨l, rfl⟩
 unfold unR
 rw [dif_pos h]
 congr 1
 exact (lT_inj (Classical.choose_spec h)).symm
theorem unR_some {t : TV} {l : List Int} (h : unR t = some l) : t = lT l := by
 unfold unR at h
 split at h
 ·rename_i hx; cases h; exact Classical.choose_spec hx
 ·cases h
theorem lT_ne {l : List Int} (h : ¬ l.length = 0) : lT l = .sl (l.map (.int .i64)) l.length false := by unfold lT; rw [if_neg h]
end Go.Ow
namespace Go.Proofs.YtdkboibnokipaaaDoor
open Go.RowKit Go.Pm Go.Ow
def jnO (tT mT : TV) (s : SJ) : List PO := [.box [.t tT], .box [.t mT], .box [.t (.bool s.2.2)], .box [.t (.int .i64 s.2.1)], .box [.t (lT s.1)], .box [.fnc 104 [0, 1, 2, 3, 4, 5]]]
def JoinC (M : List (Int × Int)) (T : List Int) (tT mT : TV) (d : Nat) : Prop := ∀ (l : List Int) (s : SJ), l.length + d = T.length → (∀ x ∈ l, 0 ≤ x ∧ x < M.length) →
 HCalls Tryd.prog 104 [.t (lT l), .ptr 0 0, .ptr 1 0, .ptr 2 0, .ptr 3 0, .ptr 4 0, .ptr 5 0] (getL (jnO tT mT s)) (.t (.tup [])) (getL (jnO tT mT (joinP M T d l s)))
open Classical in
noncomputable def gJoin (M : List (Int × Int)) (T : List Int) (tT mT : TV) (d : Nat) : List PV → List PO → Option (PV × List PO)
 | [.t gv, .ptr 0 0, .ptr 1 0, .ptr 2 0, .ptr 3 0, .ptr 4 0, .ptr 5 0], [a0, a1, .box [.t (.bool fd)], .box [.t (.int .i64 w)], .box [.t bv], a5] => match unR gv, unR bv with
  | some l, some b => if [a0, a1, a5] = [.box [.t tT], .box [.t mT], .box [.fnc 104 [0, 1, 2, 3, 4, 5]]] ∧ l.length + d = T.length ∧ ∀ x ∈ l, 0 ≤ x ∧ x < M.length then some (.t (.tup []), jnO tT mT (joinP M T d l (b, w, fd))) else none
  | _, _ => none
 | _, _ => none
theorem gJoin_ok {M : List (Int × Int)} {T : List Int} {tT mT : TV} {d : Nat} (h : JoinC M T tT mT d) : ∀ xs hl v hl', gJoin M T tT mT d xs hl = some (v, hl') → HCalls Tryd.prog 104 xs (getL hl) v (getL hl') := by
 intro xs hl v hl' e
 unfold gJoin at e
 split at e
 ·split at e
  ·rename_i l b hl hb
   split at e
   ·rename_i hc
    obtain ⟨h1, h2, h3⟩ := hc
    simp only [List.cons.injEq, and_true] at h1
    obtain ⟨rfl, rfl, rfl⟩ := h1
    cases e
    rw [unR_some hl, unR_some hb]
    exact h l (b, _, _) h2 h3
   ·cases e
  ·cases e
 ·cases e
open Classical in
theorem gJoin_eq (M : List (Int × Int)) (T : List Int) (tT mT gv : TV) (d : Nat) (fd : Bool) (w : Int) (b : List Int) : gJoin M T tT mT d [.t gv, .ptr 0 0, .ptr 1 0, .ptr 2 0, .ptr 3 0, .ptr 4 0, .ptr 5 0] [.box [.t tT], .box [.t mT], .box [.t (.bool fd)], .box [.t (.int .i64 w)], .box [.t (lT b)], .box [.fnc 104 [0, 1, 2, 3, 4, 5]]] = match unR gv with
  | some l => if l.length + d = T.length ∧ ∀ x ∈ l, 0 ≤ x ∧ x < M.length then some (.t (.tup []), jnO tT mT (joinP M T d l (b, w, fd))) else none
  | none => none := by
 unfold gJoin
 simp only [unR_eq, true_and]
 cases unR gv <;> rfl
noncomputable def spJ0 (l : List Int) (n : Int) (ws : List Int) : Pm.Spec := ((noSpec.one 106 (oneP [lT l] (lT l))).one 105 (oneP [lT ws] (.int .i64 n))).gdt
theorem join_zero {M : List (Int × Int)} {T : List Int} {tT mT : TV} (ht : inR tT T) (hm : menR mT M) (hT : T.length ≤ 8) (hM : M.length ≤ 8) : JoinC M T tT mT 0 := by
 intro l s hl hr
 obtain ⟨b, w, fd⟩ := s
 have hlT : l.length = T.length := by omega
 have hlf : joinP M T 0 l (b, w, fd) = if (!fd || decide (sumW 0 (l.map (wageP M)) < w)) = true then (l, sumW 0 (l.map (wageP M)), true) else (b, w, fd) := rfl
 obtain ⟨n, hn⟩ : ∃ n, sumW 0 (l.map (wageP M)) = n := ⟨_, rfl⟩
 have hsum := hSum_c (s := lT (l.map (wageP M))) (lT_R _) (by rw [List.length_map]; omega)
 rw [hn] at hlf hsum
 by_cases h0 : l.length = 0
 ·have hl0 : l = [] := List.length_eq_zero_iff.1 h0
  subst hl0
  have hT0 : T = [] := List.length_eq_zero_iff.1 hlT.symm
  subst hT0
  have eT : lT ([] : List Int) = .nilSl := rfl
  have hsp : SpecOk Tryd.prog (spJ0 [] n []) := Spec.gdt_ok (Spec.one_ok (oneP_ok hsum) (Spec.one_ok (oneP_ok (by rw [eT]; exact hCloneNil_c)) noSpec_ok))
  refine hcalls_by Tryd.mixes hsp (fn := Tryd.f104) Tryd.func104 rfl (by kernel_rfl) (by show 7 ≤ _; decide) ?_
  rcases ht with ⟨rfl, _⟩ | ⟨g, rfl⟩
  ·simp +decide -implicitDefEqProofs (maxSteps := 4000000) only [go_sem, Tryd.f104, spJ0, jnO, eT]
   refine pwpC_loopU (A := Unit) [0, 1, 2, 3, 4, 5, 6, 8, 18, 19] (fun _ => [(20, .t (.int .i64 0))]) (fun _ => []) (fun _ => 0) () (by decide) (fun _ => by rfl) ?_ fun Q1 hQ1 _ I1 hI1 => ?_
   ·simp +decide -implicitDefEqProofs (maxSteps := 4000000) only [go_sem]
   ·simp +decide -implicitDefEqProofs (maxSteps := 4000000) only [go_sem]
    refine hQ1 _ _ ?_
    cases fd
    ·simp +decide -implicitDefEqProofs (maxSteps := 4000000) only [go_sem, spJ0, eT, hlf, Bool.not_false, Bool.true_or]
     first | done | exact ⟨_, rfl, rfl⟩ | trace_state
    ·by_cases hw : n < w
     ·simp +decide -implicitDefEqProofs (maxSteps := 4000000) only [go_sem, spJ0, eT, hlf, hw, Bool.not_true, Bool.false_or]
      first | done | exact ⟨_, rfl, rfl⟩ | trace_state
     ·simp +decide -implicitDefEqProofs (maxSteps := 4000000) only [go_sem, spJ0, eT, hlf, hw, Bool.not_true, Bool.false_or]
      first | done | exact ⟨_, rfl, rfl⟩ | trace_state
  ·simp +decide -implicitDefEqProofs (maxSteps := 4000000) only [go_sem, Tryd.f104, spJ0, jnO, eT, List.map_nil, List.length_nil]
   refine pwpC_loopU (A := Unit) [0, 1, 2, 3, 4, 5, 6, 8, 18, 19] (fun _ => [(20, .t (.int .i64 0))]) (fun _ => []) (fun _ => 0) () (by decide) (fun _ => by rfl) ?_ fun Q1 hQ1 _ I1 hI1 => ?_
   ·simp +decide -implicitDefEqProofs (maxSteps := 4000000) only [go_sem]
   ·simp +decide -implicitDefEqProofs (maxSteps := 4000000) only [go_sem]
    refine hQ1 _ _ ?_
    cases fd
    ·simp +decide -implicitDefEqProofs (maxSteps := 4000000) only [go_sem, spJ0, eT, hlf, Bool.not_false, Bool.true_or]
     first | done | exact ⟨_, rfl, rfl⟩ | trace_state
    ·by_cases hw : n < w
     ·simp +decide -implicitDefEqProofs (maxSteps := 4000000) only [go_sem, spJ0, eT, hlf, hw, Bool.not_true, Bool.false_or]
      first | done | exact ⟨_, rfl, rfl⟩ | trace_state
     ·simp +decide -implicitDefEqProofs (maxSteps := 4000000) only [go_sem, spJ0, eT, hlf, hw, Bool.not_true, Bool.false_or]
      first | done | exact ⟨_, rfl, rfl⟩ | trace_state
 ·have eT := lT_ne h0
  have hcl := hClone_c (f := false) (show 1 ≤ l.length by omega) (show l.length ≤ 1000 by omega)
  obtain ⟨ws, hws⟩ : ∃ ws, l.map (wageP M) = ws := ⟨_, rfl⟩
  have hwl : ws.length = l.length := by rw [← hws, List.length_map]
  have eW := lT_ne (l := ws) (by omega)
  rw [hws] at hsum
  have hsp : SpecOk Tryd.prog (spJ0 l n ws) := Spec.gdt_ok (Spec.one_ok (oneP_ok hsum) (Spec.one_ok (oneP_ok (by rw [show [lT l] = [TV.sl (l.map (.int .i64)) l.length false] by rw [eT]]; exact hcl)) noSpec_ok))
  obtain ⟨g, rfl⟩ : ∃ g, tT = .sl (T.map (.int .i64)) T.length g := by
   rcases ht with ⟨_, rfl⟩ | h
   ·exact absurd hlT h0
   ·exact h
  have hM0 : ¬ M.length = 0 := fun e => by
   obtain ⟨x, hx⟩ := List.exists_mem_of_length_pos (show 0 < l.length by omega)
   have := hr x hx
   omega
  obtain ⟨f, rfl⟩ : ∃ f, mT = .sl (menL M) M.length f := by
   rcases hm with ⟨_, rfl⟩ | h
   ·exact absurd rfl hM0
   ·exact h
  have hee : ((l.length : Int) == (T.length : Int)) = true := by rw [hlT]; simp
  have hML := menL_len M
  refine hcalls_by Tryd.mixes hsp (fn := Tryd.f104) Tryd.func104 rfl (by kernel_rfl) (by show 7 ≤ _; decide) ?_
  simp +decide -implicitDefEqProofs (maxSteps := 4000000) only [go_sem, Tryd.f104, spJ0, jnO, eT, hee]
  refine pwpC_loopU (A := { k : Nat // k ≤ l.length }) [0, 1, 2, 3, 4, 5, 6, 18, 19] (fun k => [(20, .t (.int .i64 k.1)), (8, .own ((ws.take k.1).map (.int .i64)) k.1 6)]) (fun k => [(6, .tok k.1 3)]) (fun k => l.length - k.1) ⟨0, by omega⟩ (by decide) (fun _ => by rfl) ?_ fun Q1 hQ1 ⟨k, hk⟩ I1 hI1 => ?_
  ·simp +decide -implicitDefEqProofs (maxSteps := 4000000) only [go_sem, List.take_zero, List.map_nil]
  ·by_cases hlt : (k : Int) < l.length
   ·obtain ⟨x, hx⟩ : ∃ x, l[k]? = some x := ⟨_, List.getElem?_eq_getElem (by omega)⟩
    obtain ⟨hx0, hx1⟩ := hr x (List.mem_of_getElem? hx)
    obtain ⟨i, rfl⟩ := Int.eq_ofNat_of_zero_le hx0
    obtain ⟨⟨ma, mb⟩, hmi⟩ : ∃ m, M[i]? = some m := ⟨_, List.getElem?_eq_getElem (by omega)⟩
    have d1 := Go.Ow.ints_at hx
    have d2 := menL_at hmi
    simp only at d2
    have hle : i * 2 + 2 ≤ (menL M).length := by rw [hML]; omega
    have hw := Go.Pm.wS (k := k) (by omega)
    have hwk : ws[k]? = some mb := by
     rw [← hws, List.getElem?_map, hx]
     unfold wageP
     simp [List.getD_eq_getElem?_getD, hmi]
    have hs1 : (ws.take (k + 1)).map (TV.int .i64) = (ws.take k).map (.int .i64) ++ [.int .i64 mb] := by
     rw [List.take_add_one, hwk]; simp
    have hwr : (k + 1) * 8 ≤ 140737488355328 := by omega
    have hl2 : ((ws.take k).map (TV.int .i64)).length = k := by rw [List.length_map, List.length_take]; omega
    have d3 : (menL M).drop (i * 2 + 1) = .int .i64 mb :: menL (M.drop (i + 1)) := by
     rw [← List.drop_drop, d2]; rfl
    simp +decide -implicitDefEqProofs (maxSteps := 4000000) only [go_sem, hlt, d1, hx1, d2, d3, hle, hwr, hl2, Nat.mul_one]
    refine hI1 _ ⟨k + 1, by omega⟩ (by simp only; omega) ?_
    simp +decide -implicitDefEqProofs (maxSteps := 4000000) only [go_sem, hw, hs1]
   ·have hke : k = l.length := by omega
    subst hke
    have htk : ws.take l.length = ws := List.take_of_length_le (by omega)
    simp +decide -implicitDefEqProofs (maxSteps := 4000000) only [go_sem, hlt, htk]
    refine hQ1 _ _ ?_
    cases fd
    ·simp +decide -implicitDefEqProofs (maxSteps := 4000000) only [go_sem, spJ0, eT, eW, hwl, h0, hlf, Bool.not_false, Bool.true_or]
     first | done | exact ⟨_, rfl, rfl⟩ | trace_state
    ·by_cases hw : n < w
     ·simp +decide -implicitDefEqProofs (maxSteps := 4000000) only [go_sem, spJ0, eT, eW, hwl, h0, hlf, hw, Bool.not_true, Bool.false_or]
      first | done | exact ⟨_, rfl, rfl⟩ | trace_state
     ·simp +decide -implicitDefEqProofs (maxSteps := 4000000) only [go_sem, spJ0, eT, eW, hwl, h0, hlf, hw, Bool.not_true, Bool.false_or]
      first | done | exact ⟨_, rfl, rfl⟩ | trace_state
noncomputable def by1 (s : TV) (g : Int → TV) : List TV → Option TV
 | [t, .int .i64 v] => open Classical in if t = s then some (g v) else none
 | _ => none
theorem by1_ok {P : Program} {f : FuncId} {s : TV} {g : Int → TV} (h : ∀ v, PCalls P f [s, .int .i64 v] (g v)) : ∀ a r, by1 s g a = some r → PCalls P f a r := by
 intro a r e
 unfold by1 at e
 split at e
 ·split at e
  ·rename_i hc; subst hc; cases e; exact h _
  ·cases e
 ·cases e
open Classical in
@[go_sem] theorem by1_eq (s t : TV) (g : Int → TV) (v : Int) : by1 s g [t, .int .i64 v] = if t = s then some (g v) else none := rfl
noncomputable def spJ1 (M : List (Int × Int)) (T l : List Int) (tT mT : TV) (d : Nat) : Pm.Spec := { (((noSpec.one 107 hHas).one 108 (by1 (lT l) fun v => .bool (l.any fun x => v == x))).oneH 104 (gJoin M T tT mT d)) with mu := fun t => t == 52, fr := fun g => g == 104, gd := true }
theorem spJ1_ok {M : List (Int × Int)} {T l : List Int} {tT mT : TV} {d : Nat} (hl : l.length ≤ 1000000) (ih : JoinC M T tT mT d) : SpecOk Tryd.prog (spJ1 M T l tT mT d) := Spec.oneH_ok (gJoin_ok ih) (Spec.one_ok (by1_ok fun v => hHolds_c (lT_R l) hl v) (Spec.one_ok hHas_ok noSpec_ok))
section
variable (M : List (Int × Int)) (T l : List Int) (tT mT : TV) (d : Nat) (g : FuncId) (xs : List TV) (ps : List PV) (hl : List PO) (t : TypeId) (Y : YS)
@[go_sem] theorem spJ1_p : (spJ1 M T l tT mT d).p g xs = Pm.Spec.p ((noSpec.one 107 hHas).one 108 (by1 (lT l) fun v => .bool (l.any fun x => v == x))) g xs := rfl
@[go_sem] theorem spJ1_h : (spJ1 M T l tT mT d).h g ps hl = if g = 104 then gJoin M T tT mT d ps hl else none := rfl
@[go_sem] theorem spJ1_y : (spJ1 M T l tT mT d).y Y g ps hl = none := rfl
@[go_sem] theorem spJ1_pn : (spJ1 M T l tT mT d).pn g ps hl = none := rfl
@[go_sem] theorem spJ1_fz : (spJ1 M T l tT mT d).fz g = false := rfl
@[go_sem] theorem spJ1_fr : (spJ1 M T l tT mT d).fr g = (g == 104) := rfl
@[go_sem] theorem spJ1_yf : (spJ1 M T l tT mT d).yf g = false := rfl
@[go_sem] theorem spJ1_gd : (spJ1 M T l tT mT d).gd = true := rfl
@[go_sem] theorem spJ1_mu : (spJ1 M T l tT mT d).mu t = (t == 52) := rfl
@[go_sem] theorem spJ1_nf : (spJ1 M T l tT mT d).nf t = false := rfl
end
theorem join_succ {M : List (Int × Int)} {T : List Int} {tT mT : TV} {d : Nat} (ht : inR tT T) (hm : menR mT M) (hT : T.length ≤ 8) (hM : M.length ≤ 8) (hTt : ∀ t ∈ T, 0 ≤ t) (ih : JoinC M T tT mT d) : JoinC M T tT mT (d + 1) := by
 intro l s hl hr
 have hsp := spJ1_ok (l := l) (by omega) ih
 have hjs : joinP M T (d + 1) l s = loopJ (joinP M T d) M T l s M.length := rfl
 rw [hjs]
 obtain ⟨S, hS⟩ : ∃ S, loopJ (joinP M T d) M T l s = S := ⟨_, rfl⟩
 have hS0 : S 0 = s := by rw [← hS]; rfl
 have hSs : ∀ k, S (k + 1) = if skipJ M T l k = true then S k else joinP M T d (l ++ [(k : Int)]) (S k) := fun k => by rw [← hS]; rfl
 rw [hS]
 obtain ⟨b, w, fd⟩ := s
 obtain ⟨g, rfl⟩ : ∃ g, tT = .sl (T.map (.int .i64)) T.length g := by
  rcases ht with ⟨_, rfl⟩ | h
  ·simp at hl
  ·exact h
 obtain ⟨tk, htk⟩ : ∃ t, T[l.length]? = some t := ⟨_, List.getElem?_eq_getElem (by omega)⟩
 have hk0 := hTt tk (List.mem_of_getElem? htk)
 have hTg : T.getD l.length 0 = tk := by rw [List.getD_eq_getElem?_getD, htk]; rfl
 have dT := Go.Ow.ints_at htk
 have hlt1 : (l.length : Int) < T.length := by omega
 have hee : ((l.length : Int) == (T.length : Int)) = false := beq_int_f (by omega)
 have hML := menL_len M
 have hcase : lT l = .nilSl ∧ l = [] ∨ (¬ l.length = 0 ∧ lT l = .sl (l.map (.int .i64)) l.length false) := by
  by_cases h0 : l.length = 0
  ·have := List.length_eq_zero_iff.1 h0
   subst this
   exact .inl ⟨rfl, rfl⟩
  ·exact .inr ⟨h0, lT_ne h0⟩
 have hgj : ∀ (k : Nat) (cs : List TV) (n : Nat) (b1 : List Int) (w1 : Int) (f1 : Bool) (b2 : List Int) (w2 : Int) (f2 : Bool), k < M.length → lT (l ++ [(k : Int)]) = .sl cs n false → joinP M T d (l ++ [(k : Int)]) (b1, w1, f1) = (b2, w2, f2) → gJoin M T (.sl (T.map (.int .i64)) T.length g) mT d [.t (.sl cs n false), .ptr 0 0, .ptr 1 0, .ptr 2 0, .ptr 3 0, .ptr 4 0, .ptr 5 0] [.box [.t (.sl (T.map (.int .i64)) T.length g)], .box [.t mT], .box [.t (.bool f1)], .box [.t (.int .i64 w1)], .box [.t (lT b1)], .box [.fnc 104 [0, 1, 2, 3, 4, 5]]] = some (.t (.tup []), [.box [.t (.sl (T.map (.int .i64)) T.length g)], .box [.t mT], .box [.t (.bool f2)], .box [.t (.int .i64 w2)], .box [.t (lT b2)], .box [.fnc 104 [0, 1, 2, 3, 4, 5]]]) := fun k cs n b1 w1 f1 b2 w2 f2 hk hc hj => by
  have h := gJoin_eq M T (.sl (T.map (.int .i64)) T.length g) mT (lT (l ++ [(k : Int)])) d f1 w1 b1
  rw [unR_eq] at h
  simp only at h
  rw [if_pos ⟨by simp; omega, fun x hx => by
   rcases List.mem_append.1 hx with hx | hx
   ·exact hr x hx
   ·rw [List.mem_singleton] at hx; subst hx; omega⟩, hj, hc] at h
  exact h
 refine hcalls_by Tryd.mixes hsp (fn := Tryd.f104) Tryd.func104 rfl (by kernel_rfl) (by show 7 ≤ _; decide) ?_
 rcases hm with ⟨rfl, rfl⟩ | ⟨f, rfl⟩
 ·rcases hcase with ⟨eL, hle0⟩ | ⟨h0, eL⟩
  ·subst hle0
   simp only [List.length_nil] at hee
   rw [show ((0 : Nat) : Int) = 0 from rfl] at hee
   simp +decide -implicitDefEqProofs (maxSteps := 4000000) only [go_sem, Tryd.f104, jnO, eL, hee]
   refine pwpC_loopU (A := Unit) [0, 1, 2, 3, 4, 5, 6, 45, 46] (fun _ => [(47, .t (.int .i64 0))]) (fun _ => []) (fun _ => 0) () (by decide) (fun _ => by rfl) ?_ fun Q1 hQ1 _ I1 hI1 => ?_
   ·simp +decide -implicitDefEqProofs (maxSteps := 4000000) only [go_sem]
   ·simp +decide -implicitDefEqProofs (maxSteps := 4000000) only [go_sem]
    refine hQ1 _ _ ?_
    simp +decide -implicitDefEqProofs (maxSteps := 4000000) only [go_sem, List.length_nil, hS0]
    first | done | exact ⟨_, rfl, rfl⟩ | trace_state
  ·simp +decide -implicitDefEqProofs (maxSteps := 4000000) only [go_sem, Tryd.f104, jnO, eL, hee]
   refine pwpC_loopU (A := Unit) [0, 1, 2, 3, 4, 5, 6, 45, 46] (fun _ => [(47, .t (.int .i64 0))]) (fun _ => []) (fun _ => 0) () (by decide) (fun _ => by rfl) ?_ fun Q1 hQ1 _ I1 hI1 => ?_
   ·simp +decide -implicitDefEqProofs (maxSteps := 4000000) only [go_sem]
   ·simp +decide -implicitDefEqProofs (maxSteps := 4000000) only [go_sem]
    refine hQ1 _ _ ?_
    simp +decide -implicitDefEqProofs (maxSteps := 4000000) only [go_sem, List.length_nil, hS0]
    first | done | exact ⟨_, rfl, rfl⟩ | trace_state
 have hsk : ∀ (k : Nat) (a c : Int), M[k]? = some (a, c) → skipJ M T l k = (!hasP a tk || l.any fun x => (k : Int) == x) := fun k a c hk => by
  unfold skipJ
  rw [hTg, List.getD_eq_getElem?_getD, hk]; rfl
 rcases hcase with ⟨eL, hle0⟩ | ⟨h0, eL⟩
 ·subst hle0
  simp only [List.length_nil] at htk hTg dT hlt1 hee hl
  rw [show ((0 : Nat) : Int) = 0 from rfl] at hlt1 hee
  rw [List.drop_zero] at dT
  obtain ⟨tl, htl⟩ : ∃ tl, (T.map (TV.int .i64)).drop (0 + 1) = tl := ⟨_, rfl⟩
  rw [htl] at dT
  simp only [List.nil_append, dT] at hgj hSs
  simp +decide -implicitDefEqProofs (maxSteps := 4000000) only [go_sem, Tryd.f104, jnO, eL, hee, dT]
  refine pwpC_loopU (A := { k : Nat // k ≤ M.length }) [0, 1, 2, 3, 4, 5, 6, 45, 46] (fun k => [(47, .t (.int .i64 k.1))]) (fun k => [(2, .box [.t (.bool (S k.1).2.2)]), (3, .box [.t (.int .i64 (S k.1).2.1)]), (4, .box [.t (lT (S k.1).1)])]) (fun k => M.length - k.1) ⟨0, by omega⟩ (by decide) (fun _ => by rfl) ?_ fun Q1 hQ1 ⟨k, hk⟩ I1 hI1 => ?_
  ·simp +decide -implicitDefEqProofs (maxSteps := 4000000) only [go_sem, hS0]
  ·by_cases hlt : (k : Int) < M.length
   ·obtain ⟨⟨ma, mb⟩, hmk⟩ : ∃ m, M[k]? = some m := ⟨_, List.getElem?_eq_getElem (by omega)⟩
    have d2 := menL_at hmk
    simp only at d2
    have hle : k * 2 + 2 ≤ (menL M).length := by rw [hML]; omega
    have hw := Go.Pm.wS (k := k) (by omega)
    have hs := hsk k ma mb hmk
    have hss := hSs k
    obtain ⟨⟨b1, w1, f1⟩, hSk⟩ : ∃ s, S k = s := ⟨_, rfl⟩
    rw [hs, hSk] at hss
    cases h1 : hasP ma tk with
    | false =>
     rw [h1] at hss
     simp only [Bool.not_false, Bool.true_or, if_true] at hss
     simp +decide -implicitDefEqProofs (maxSteps := 4000000) only [go_sem, hlt, hSk, d2, hle, hlt1, dT, hk0, h1, eL, Nat.mul_one, Nat.zero_mul, List.drop_zero]
     refine hI1 _ ⟨k + 1, by omega⟩ (by simp only; omega) ?_
     simp +decide -implicitDefEqProofs (maxSteps := 4000000) only [go_sem, hw, hss]
    | true =>
     rw [h1] at hss
     simp only [Bool.not_true, Bool.false_or, List.any_nil, Bool.false_eq_true, if_false] at hss
     obtain ⟨⟨b2, w2, f2⟩, hj⟩ : ∃ s, joinP M T d [(k : Int)] (b1, w1, f1) = s := ⟨_, rfl⟩
     rw [hj] at hss
     have hg := hgj k [.int .i64 k] 1 b1 w1 f1 b2 w2 f2 (by omega) rfl hj
     simp +decide -implicitDefEqProofs (maxSteps := 4000000) only [go_sem, hlt, hSk, d2, hle, hlt1, dT, hk0, h1, eL, List.any_nil, Nat.mul_one, Nat.zero_mul, List.drop_zero, freezeW, freezeO, closedG, seenF, wr, upo, thawP, thawC, hg]
     refine hI1 _ ⟨k + 1, by omega⟩ (by simp only; omega) ?_
     simp +decide -implicitDefEqProofs (maxSteps := 4000000) only [go_sem, hw, hss]
   ·have hke : k = M.length := by omega
    subst hke
    simp +decide -implicitDefEqProofs (maxSteps := 4000000) only [go_sem, hlt]
    refine hQ1 _ _ ?_
    simp +decide -implicitDefEqProofs (maxSteps := 4000000) only [go_sem]
    first | done | exact ⟨_, rfl, rfl⟩ | trace_state
 ·simp +decide -implicitDefEqProofs (maxSteps := 4000000) only [go_sem, Tryd.f104, jnO, eL, hee]
  have hlm : (l.map (TV.int .i64)).length = l.length := List.length_map _
  have htkl : (l.map (TV.int .i64)).take l.length = l.map (.int .i64) := List.take_of_length_le (by omega)
  have hl8 : (l.length + 1) * 8 ≤ 140737488355328 := by omega
  refine pwpC_loopU (A := { k : Nat // k ≤ M.length }) [0, 1, 2, 3, 4, 5, 6, 45, 46] (fun k => [(47, .t (.int .i64 k.1))]) (fun k => [(2, .box [.t (.bool (S k.1).2.2)]), (3, .box [.t (.int .i64 (S k.1).2.1)]), (4, .box [.t (lT (S k.1).1)])]) (fun k => M.length - k.1) ⟨0, by omega⟩ (by decide) (fun _ => by rfl) ?_ fun Q1 hQ1 ⟨k, hk⟩ I1 hI1 => ?_
  ·simp +decide -implicitDefEqProofs (maxSteps := 4000000) only [go_sem, hS0]
  ·by_cases hlt : (k : Int) < M.length
   ·obtain ⟨⟨ma, mb⟩, hmk⟩ : ∃ m, M[k]? = some m := ⟨_, List.getElem?_eq_getElem (by omega)⟩
    have d2 := menL_at hmk
    simp only at d2
    have hle : k * 2 + 2 ≤ (menL M).length := by rw [hML]; omega
    have hw := Go.Pm.wS (k := k) (by omega)
    have hs := hsk k ma mb hmk
    have hss := hSs k
    obtain ⟨⟨b1, w1, f1⟩, hSk⟩ : ∃ s, S k = s := ⟨_, rfl⟩
    rw [hs, hSk] at hss
    cases h1 : hasP ma tk with
    | false =>
     rw [h1] at hss
     simp only [Bool.not_false, Bool.true_or, if_true] at hss
     simp +decide -implicitDefEqProofs (maxSteps := 4000000) only [go_sem, hlt, hSk, d2, hle, hlt1, dT, hk0, h1, eL, Nat.mul_one]
     refine hI1 _ ⟨k + 1, by omega⟩ (by simp only; omega) ?_
     simp +decide -implicitDefEqProofs (maxSteps := 4000000) only [go_sem, hw, hss]
    | true =>
     obtain ⟨an, han⟩ : ∃ a, (l.any fun x => (k : Int) == x) = a := ⟨_, rfl⟩
     rw [h1, han] at hss
     cases an with
     | true =>
      simp only [Bool.not_true, Bool.false_or, if_true] at hss
      simp +decide -implicitDefEqProofs (maxSteps := 4000000) only [go_sem, hlt, hSk, d2, hle, hlt1, dT, hk0, h1, eL, han, Nat.mul_one]
      refine hI1 _ ⟨k + 1, by omega⟩ (by simp only; omega) ?_
      simp +decide -implicitDefEqProofs (maxSteps := 4000000) only [go_sem, hw, hss]
     | false =>
      simp only [Bool.not_true, Bool.false_or, Bool.false_eq_true, if_false] at hss
      obtain ⟨⟨b2, w2, f2⟩, hj⟩ : ∃ s, joinP M T d (l ++ [(k : Int)]) (b1, w1, f1) = s := ⟨_, rfl⟩
      rw [hj] at hss
      have hcs : List.map PV.t (List.map (TV.int .i64) l) ++ [PV.t (TV.int .i64 (k : Int))] = List.map PV.t (List.map (TV.int .i64) (l ++ [(k : Int)])) := by simp
      have hll : (List.map (TV.int .i64) (l ++ [(k : Int)])).length = l.length + 1 := by simp
      have htk2 : (List.map (TV.int .i64) (l ++ [(k : Int)])).take (l.length + 1) = List.map (TV.int .i64) (l ++ [(k : Int)]) := List.take_of_length_le (by rw [hll]; exact Nat.le_refl _)
      have hg := hgj k (List.map (TV.int .i64) (l ++ [(k : Int)])) (l.length + 1) b1 w1 f1 b2 w2 f2 (by omega) (by rw [lT_ne (by simp)]; simp) hj
      simp +decide -implicitDefEqProofs (maxSteps := 4000000) only [go_sem, hlt, hSk, d2, hle, hlt1, dT, hk0, h1, eL, han, hlm, htkl, hl8, hcs, hll, htk2, thawA_ts, idsG_ts, Nat.mul_one, Nat.zero_mul, Nat.sub_zero, Nat.zero_add, List.drop_zero, freezeW, freezeO, closedG, seenF, wr, upo, thawP, thawC, hg]
      refine hI1 _ ⟨k + 1, by omega⟩ (by simp only; omega) ?_
      simp +decide -implicitDefEqProofs (maxSteps := 4000000) only [go_sem, hw, hss]
   ·have hke : k = M.length := by omega
    subst hke
    simp +decide -implicitDefEqProofs (maxSteps := 4000000) only [go_sem, hlt]
    refine hQ1 _ _ ?_
    simp +decide -implicitDefEqProofs (maxSteps := 4000000) only [go_sem]
    first | done | exact ⟨_, rfl, rfl⟩ | trace_state
end Go.Proofs.YtdkboibnokipaaaDoor

namespace Go.Ow
open Go Go.RowKit Go.Pm
def bestJ (M : List (Int × Int)) (T : List Int) : SJ := joinP M T T.length [] ([], 0, false)
theorem bestJ_ok (M : List (Int × Int)) (T : List Int) : postsOk M T (bestJ M T) := joinP_ok M T T.length [] _ (by simp) List.nodup_nil (fun x hx => by cases hx) (fun h => by cases h)
def postsT (M : List (Int × Int)) (T : List Int) : TV := if tasksB M T = true then (if (bestJ M T).2.2 = true then .tup [lT (bestJ M T).1, .int .i64 (bestJ M T).2.1, .int .i64 0] else .tup [.nilSl, .int .i64 0, .int .i64 4]) else .tup [.nilSl, .int .i64 0, .int .i64 105]
theorem tasks_ok {M : List (Int × Int)} {T : List Int} (h : tasksB M T = true) : M.length ≤ 8 ∧ T.length ≤ 8 ∧ ∀ t ∈ T, 0 ≤ t := by
 unfold tasksB at h
 simp only [Bool.and_eq_true, decide_eq_true_eq, List.all_eq_true] at h
 exact ⟨by omega, by omega, fun t ht => (inW_iff.1 (h.2.2.2 t ht)).1⟩
end Go.Ow
namespace Go.Proofs.YtdkboibnokipaaaDoor
open Go.RowKit Go.Pm Go.Ow
theorem join_all {M : List (Int × Int)} {T : List Int} {tT mT : TV} (ht : inR tT T) (hm : menR mT M) (hT : T.length ≤ 8) (hM : M.length ≤ 8) (hTt : ∀ t ∈ T, 0 ≤ t) : ∀ d, JoinC M T tT mT d
 | 0 => join_zero ht hm hT hM
 | d + 1 => join_succ ht hm hT hM hTt (join_all ht hm hT hM hTt d)
noncomputable def spJ2 (M : List (Int × Int)) (T : List Int) (tT mT : TV) : Pm.Spec := (noSpec.oneH 104 (gJoin M T tT mT T.length)).gdt
theorem hBest_c {M : List (Int × Int)} {T : List Int} {tT mT : TV} (ht : inR tT T) (hm : menR mT M) (hb : tasksB M T = true) : PCalls Tryd.prog 79 [mT, tT] (.tup [lT (bestJ M T).1, .int .i64 (bestJ M T).2.1, .bool (bestJ M T).2.2]) := by
 obtain ⟨hM, hT, hTt⟩ := tasks_ok hb
 have hsp : SpecOk Tryd.prog (spJ2 M T tT mT) := Spec.gdt_ok (Spec.oneH_ok (gJoin_ok (join_all ht hm hT hM hTt T.length)) noSpec_ok)
 have hg := gJoin_eq M T tT mT (lT []) T.length false 0 []
 rw [unR_eq] at hg
 simp only [List.length_nil, Nat.zero_add, List.not_mem_nil, false_imp_iff, implies_true, and_self, if_true] at hg
 rw [show joinP M T T.length [] ([], 0, false) = bestJ M T from rfl] at hg
 rw [show lT [] = TV.nilSl from rfl] at hg
 obtain ⟨⟨b, w, fd⟩, hB⟩ : ∃ s, bestJ M T = s := ⟨_, rfl⟩
 rw [hB] at hg ⊢
 simp only [jnO] at hg
 have p1 : pcells (.t mT) = some [.t mT] := by rcases hm with ⟨rfl, _⟩ | ⟨f, rfl⟩ <;> rfl
 have p2 : pcells (.t tT) = some [.t tT] := by rcases ht with ⟨rfl, _⟩ | ⟨f, rfl⟩ <;> rfl
 have p3 : pcells (.t (lT b)) = some [.t (lT b)] := by
  obtain ⟨x, hx⟩ : ∃ x, lT b = x := ⟨_, rfl⟩
  have := lT_R b
  rw [hx] at this ⊢
  rcases this with ⟨rfl, _⟩ | ⟨f, rfl⟩ <;> rfl
 refine pcalls_by Tryd.mixes hsp (fn := Tryd.f79) Tryd.func79 rfl (by kernel_rfl) (by show 2 ≤ _; decide) ?_
 simp +decide -implicitDefEqProofs (maxSteps := 4000000) only [go_sem, Tryd.f79, spJ2, hg, p1, p2, p3]
theorem hPosts_c {M : List (Int × Int)} {T : List Int} {tT mT : TV} (ht : inR tT T) (hm : menR mT M) : PCalls Tryd.prog 47 [mT, tT] (postsT M T) := by
 have hA := hTasks_c hm ht
 by_cases hb : tasksB M T = true
 ·have hB := hBest_c ht hm hb
  have e : postsT M T = if (bestJ M T).2.2 = true then .tup [lT (bestJ M T).1, .int .i64 (bestJ M T).2.1, .int .i64 0] else .tup [.nilSl, .int .i64 0, .int .i64 4] := by unfold postsT; rw [if_pos hb]
  rw [hb] at hA
  obtain ⟨⟨b, w, fd⟩, hS⟩ : ∃ s, bestJ M T = s := ⟨_, rfl⟩
  rw [hS] at hB e
  simp only at hB e
  refine pcalls_by Tryd.mixes (Spec.gdt_ok (Spec.one_ok (oneP_ok hB) (Spec.one_ok (oneP_ok hA) noSpec_ok))) (fn := Tryd.f47) Tryd.func47 rfl (by kernel_rfl) (by show 2 ≤ _; decide) ?_
  cases fd <;> simp +decide -implicitDefEqProofs (maxSteps := 4000000) only [go_sem, Tryd.f47, e]
  all_goals first | done | trace_state
 ·have hb : tasksB M T = false := by simpa using hb
  have e : postsT M T = .tup [.nilSl, .int .i64 0, .int .i64 105] := by unfold postsT; rw [hb]; rfl
  rw [hb] at hA
  refine pcalls_by Tryd.mixes (Spec.gdt_ok (Spec.one_ok (oneP_ok hA) noSpec_ok)) (fn := Tryd.f47) Tryd.func47 rfl (by kernel_rfl) (by show 2 ≤ _; decide) ?_
  simp +decide -implicitDefEqProofs (maxSteps := 4000000) only [go_sem, Tryd.f47, e]
theorem hPlace_c {l : List Int} (f : Bool) (hl : l.length ≤ 1000000) (v : Int) : PCalls Tryd.prog 49 [.sl (l.map (.int .i64)) l.length f, .int .i64 v] (.int .i64 (idxF (fun x => x == v) 0 l)) := by
 have w0 : IntKind.i64.wrap ((l.length : Int) - 1) = (l.length : Int) - 1 := wrap_in (by omega) (by omega)
 refine pcalls_by Tryd.mixes noSpec_ok (fn := Tryd.f49) Tryd.func49 rfl (by kernel_rfl) (by show 2 ≤ _; decide) ?_
 simp +decide -implicitDefEqProofs (maxSteps := 4000000) only [go_sem, Tryd.f49, w0]
 refine pwpC_loopU (A := { k : Nat // k ≤ l.length }) [0, 1] (fun k => [(6, .t (.int .i64 ((k.1 : Int) - 1))), (5, .t (.int .i64 (idxF (fun x => x == v) k.1 (l.drop k.1))))]) (fun _ => []) (fun k => k.1) ⟨l.length, by omega⟩ (by decide) (fun _ => by rfl) ?_ fun Q1 hQ1 ⟨k, hk⟩ I1 hI1 => ?_
 ·simp +decide -implicitDefEqProofs (maxSteps := 4000000) only [go_sem, List.drop_length, idxF]
 ·by_cases hlt : (k : Int) - 1 ≥ 0
  ·obtain ⟨j, rfl⟩ : ∃ j, k = j + 1 := ⟨k - 1, by omega⟩
   obtain ⟨x, hx⟩ : ∃ x, l[j]? = some x := ⟨_, List.getElem?_eq_getElem (by omega)⟩
   have d1 := Go.Ow.ints_at hx
   have e1 : ((j + 1 : Nat) : Int) - 1 = (j : Int) := by omega
   have w1 : IntKind.i64.wrap ((j : Int) - 1) = (j : Int) - 1 := wrap_in (by omega) (by omega)
   have g1 : (j : Int) ≥ 0 := by omega
   have g2 : (j : Int) < l.length := by omega
   have hdk : l.drop j = x :: l.drop (j + 1) := by rw [List.drop_eq_getElem_cons (by omega)]; rw [List.getElem?_eq_getElem (by omega)] at hx; cases hx; rfl
   have hid : idxF (fun x => x == v) j (l.drop j) = if (x == v) = true then (j : Int) else idxF (fun x => x == v) (j + 1) (l.drop (j + 1)) := by rw [hdk, idxF_cons]
   cases hb : (x == v) with
   | true =>
    rw [hb, if_pos rfl] at hid
    simp +decide -implicitDefEqProofs (maxSteps := 4000000) only [go_sem, e1, g1, g2, d1, hb, w1, Nat.mul_one]
    refine hI1 _ ⟨j, by omega⟩ (by simp only; omega) ?_
    simp +decide -implicitDefEqProofs (maxSteps := 4000000) only [go_sem, hid, w1]
   | false =>
    rw [hb, if_neg Bool.false_ne_true] at hid
    simp +decide -implicitDefEqProofs (maxSteps := 4000000) only [go_sem, e1, g1, g2, d1, hb, w1, Nat.mul_one]
    refine hI1 _ ⟨j, by omega⟩ (by simp only; omega) ?_
    simp +decide -implicitDefEqProofs (maxSteps := 4000000) only [go_sem, hid, w1]
  ·have hk0 : k = 0 := by omega
   subst hk0
   simp +decide -implicitDefEqProofs (maxSteps := 4000000) only [go_sem]
   refine hQ1 _ _ ?_
   simp +decide -implicitDefEqProofs (maxSteps := 4000000) only [go_sem, List.drop_zero]
theorem idxF_nodup {v : Int} : ∀ {l : List Int} {i k : Nat}, l.Nodup → l[k]? = some v → idxF (fun x => x == v) i l = ((i + k : Nat) : Int)
 | x :: l, i, 0, hn, h => by
  simp only [List.getElem?_cons_zero, Option.some.injEq] at h
  subst h
  rw [idxF_cons, if_pos (by simp)]; rfl
 | x :: l, i, k + 1, hn, h => by
  rw [List.getElem?_cons_succ] at h
  have hx : x ≠ v := fun e => by subst e; exact (List.nodup_cons.1 hn).1 (List.mem_of_getElem? h)
  rw [idxF_cons, if_neg (by simpa using hx), idxF_nodup (List.nodup_cons.1 hn).2 h]
  congr 1
  omega
end Go.Proofs.YtdkboibnokipaaaDoor

namespace Go.Ow
open Go Go.RowKit Go.Pm
def sgnP : List (List ByteArray) := [[⟨#[49, 63]⟩, ⟨#[53]⟩, ⟨#[49, 55]⟩], [⟨#[56]⟩, ⟨#[50]⟩, ⟨#[49, 48]⟩], [⟨#[50, 48]⟩, ⟨#[55]⟩, ⟨#[50, 55]⟩]]
def sgnQ : List (List ByteArray) := [[⟨#[49, 50]⟩, ⟨#[53]⟩, ⟨#[49, 55]⟩], [⟨#[56]⟩, ⟨#[50]⟩, ⟨#[49, 48]⟩], [⟨#[50, 48]⟩, ⟨#[55]⟩, ⟨#[50, 55]⟩]]
theorem sgn_valid : validB sgnP = true := by decide
theorem sgn_read : readG sgnP = [[2]] := by decide +kernel
theorem sgn_best : bestJ [(1, 9)] [0] = ([0], 9, true) := by decide +kernel
theorem sgn_tasks : tasksB [(1, 9)] [0] = true := by decide +kernel
end Go.Ow
namespace Go.Proofs.YtdkboibnokipaaaDoor
open Go.RowKit Go.Pm Go.Ow
theorem sgn_rest : restT sgnP = .tup [pgV sgnQ, .int .i64 1, .int .i64 0] := by
 have h : restP sgnP = sgnQ := by decide +kernel
 unfold restT
 rw [sgn_read, if_neg (by simp), h]; rfl
theorem sgn_least_e : evP Tryd.prog (evS Tryd.prog noSpec 60 5) 60 80 [.sl [.int .i64 (-1), .int .i64 0, .int .i64 0, .int .i64 (-1), .int .i64 0, .int .i64 0] 2 true, .int .i64 1] = some (.tup [.int .i64 2, .int .i64 0, .int .i64 0]) := by kernel_rfl
theorem sgn_same_e : evP Tryd.prog (evS Tryd.prog noSpec 60 5) 60 81 [.sl [.int .i64 0] 1 false, .sl [.int .i64 0] 1 true] = some (.bool true) := by kernel_rfl
noncomputable def spSg : Pm.Spec := ((((noSpec.one 14 (oneP [litT sgnP] (.tup [pgV sgnQ, .int .i64 1, .int .i64 0]))).one 80 (oneP [.sl [.int .i64 (-1), .int .i64 0, .int .i64 0, .int .i64 (-1), .int .i64 0, .int .i64 0] 2 true, .int .i64 1] (.tup [.int .i64 2, .int .i64 0, .int .i64 0]))).one 47 (oneP [.sl [.int .i64 1, .int .i64 9] 1 true, .sl [.int .i64 0] 1 true] (.tup [.sl [.int .i64 0] 1 false, .int .i64 9, .int .i64 0]))).one 81 (oneP [.sl [.int .i64 0] 1 false, .sl [.int .i64 0] 1 true] (.bool true))).gdt
theorem spSg_ok : SpecOk Tryd.prog spSg := by
 refine Spec.gdt_ok (Spec.one_ok (oneP_ok ?_) (Spec.one_ok (oneP_ok ?_) (Spec.one_ok (oneP_ok ?_) (Spec.one_ok (oneP_ok ?_) noSpec_ok))))
 ·exact evP_ok Tryd.mixes (evS_ok Tryd.mixes noSpec_ok 5) sgn_same_e
 ·have h := hPosts_c (M := [(1, 9)]) (T := [0]) (tT := .sl [.int .i64 0] 1 true) (mT := .sl [.int .i64 1, .int .i64 9] 1 true) (.inr ⟨true, rfl⟩) (.inr ⟨true, rfl⟩)
  unfold postsT at h
  rw [sgn_tasks, if_pos rfl, sgn_best] at h
  exact h
 ·exact evP_ok Tryd.mixes (evS_ok Tryd.mixes noSpec_ok 5) sgn_least_e
 ·exact restore_of (litT_R sgnP) sgn_valid sgn_rest
theorem tSigned_c : PCalls Tryd.prog 48 [] (.bool true) := by
 have hL : litT sgnP = .sl [.sl [.str ⟨#[49, 63]⟩, .str ⟨#[53]⟩, .str ⟨#[49, 55]⟩] 3 true, .sl [.str ⟨#[56]⟩, .str ⟨#[50]⟩, .str ⟨#[49, 48]⟩] 3 true, .sl [.str ⟨#[50, 48]⟩, .str ⟨#[55]⟩, .str ⟨#[50, 55]⟩] 3 true] 3 true := rfl
 have hV : pgV sgnQ = .sl [.sl [.str ⟨#[49, 50]⟩, .str ⟨#[53]⟩, .str ⟨#[49, 55]⟩] 3 true, .sl [.str ⟨#[56]⟩, .str ⟨#[50]⟩, .str ⟨#[49, 48]⟩] 3 true, .sl [.str ⟨#[50, 48]⟩, .str ⟨#[55]⟩, .str ⟨#[50, 55]⟩] 3 true] 3 false := rfl
 have hw : ((⟨#[49, 50]⟩ : ByteArray).toList == (⟨#[49, 50]⟩ : ByteArray).toList) = true := (beqS _ _).trans (decide_eq_true rfl)
 refine pcalls_by Tryd.mixes spSg_ok (fn := Tryd.f48) Tryd.func48 rfl (by kernel_rfl) (by show 0 ≤ _; decide) ?_
 simp +decide -implicitDefEqProofs (maxSteps := 4000000) only [go_sem, Tryd.f48, spSg, hL, hV, hw]
end Go.Proofs.YtdkboibnokipaaaDoor

namespace Go.Ow
open Go Go.RowKit Go.Pm
abbrev Cst := Int × Bool × List ByteArray
theorem diff_self (a : List ByteArray) : diffP a a = none := diffP_none fun j hj => by
 unfold diffAt
 rw [decide_eq_false (show ¬ a.length ≤ j by omega), decide_eq_true rfl]; rfl
end Go.Ow
namespace Go.Proofs.YtdkboibnokipaaaDoor
open Go.RowKit Go.Pm Go.Ow
end Go.Proofs.YtdkboibnokipaaaDoor

namespace Go.Ow
open Go Go.RowKit Go.Pm
theorem judge_marks {l : List WRec} {c : WCl} {i : Nat} {r : WRec} (hb : bookB l = true) (hh : headOk c = true) (hm : c.marks.all nameB = true) (hbe : bearN l c.num c.day = some i) (hr : l[i]? = some r) (h1 : r.by_ = c.maker) (h2 : r.day = c.made) {k : Nat} (h3 : diffP (marksK l i c.day l.length) c.marks = some k) : judgeP l c = ((4, (k : Int)), 0) := by
 unfold judgeP
 rw [if_pos hb, hh, hm]
 simp only [Bool.and_self, if_true, hbe, hr]
 rw [if_neg (by simpa using h1), if_neg (by simpa using h2), h3]
theorem judge_ok {l : List WRec} {c : WCl} {i : Nat} {r : WRec} (hb : bookB l = true) (hh : headOk c = true) (hm : c.marks.all nameB = true) (hbe : bearN l c.num c.day = some i) (hr : l[i]? = some r) (h1 : r.by_ = c.maker) (h2 : r.day = c.made) (h3 : diffP (marksK l i c.day l.length) c.marks = none) : judgeP l c = ((0, 0), 0) := by
 unfold judgeP
 rw [if_pos hb, hh, hm]
 simp only [Bool.and_self, if_true, hbe, hr]
 rw [if_neg (by simpa using h1), if_neg (by simpa using h2), h3]
end Go.Ow
namespace Go.Proofs.YtdkboibnokipaaaDoor
open Go.RowKit Go.Pm Go.Ow
open Classical in
noncomputable def wkJudgeT (s : TV) (l : List WRec) : List TV → Option TV
 | [t, .agg [.int .i64 n, .int .i64 d, .str mk, .int .i64 md, ms]] => if h : ∃ marks, t = s ∧ txR ms marks ∧ marks.length ≤ 140737488355328 then some (judT (judgeP l ⟨n, d, mk, md, Classical.choose h⟩)) else none
 | _ => none
open Classical in
theorem wkJudgeT_of {s ms : TV} {l : List WRec} {n d md : Int} {mk : ByteArray} {marks : List ByteArray} (h1 : txR ms marks) (h2 : marks.length ≤ 140737488355328) : wkJudgeT s l [s, .agg [.int .i64 n, .int .i64 d, .str mk, .int .i64 md, ms]] = some (judT (judgeP l ⟨n, d, mk, md, marks⟩)) := by
 have h : ∃ marks, s = s ∧ txR ms marks ∧ marks.length ≤ 140737488355328 := ⟨marks, rfl, h1, h2⟩
 show (if h : ∃ marks, s = s ∧ txR ms marks ∧ marks.length ≤ 140737488355328 then some (judT (judgeP l ⟨n, d, mk, md, Classical.choose h⟩)) else none) = _
 rw [dif_pos h]
 rw [txR_inj (Classical.choose_spec h).2.1 h1]
open Classical in
theorem wkJudgeT_ok {s : TV} {l : List WRec} (hs : bkT s l) (hL : l.length ≤ 140737488355328) : ∀ a r, wkJudgeT s l a = some r → PCalls Tryd.prog 30 a r := by
 intro a r h
 unfold wkJudgeT at h
 split at h
 ·split at h
  ·rename_i hx
   cases h
   have hc := Classical.choose_spec hx
   obtain ⟨m, hm⟩ : ∃ m, Classical.choose hx = m := ⟨_, rfl⟩
   rw [hm] at hc ⊢
   obtain ⟨rfl, h1, h2⟩ := hc
   exact wJudge_c (c := ⟨_, _, _, _, m⟩) hs hL h1 h2
  ·cases h
 ·cases h
end Go.Proofs.YtdkboibnokipaaaDoor

namespace Go.Ow
open Go Go.RowKit Go.Pm
def birdB : ByteArray := ⟨#[98, 105, 114, 100]⟩
def wB (x : Int) : ByteArray := ⟨#[119, UInt8.ofNat (48 + x.toNat)]⟩
def sgR0 : WRec := ⟨1, 0, 7, birdB, 0⟩
def sgR (l : List Int) (k : Nat) : WRec := ⟨2, ((k + 1 : Nat) : Int), 7, wB (l.getD k 0), 0⟩
def sgB (l : List Int) (n : Nat) : List WRec := sgR0 :: (List.range n).map (sgR l)
def sgM (l : List Int) (n : Nat) : List ByteArray := (List.range n).map fun k => wB (l.getD k 0)
def sgL (l : List Int) : Prop := l.length ≤ 8 ∧ l.Nodup ∧ ∀ x ∈ l, 0 ≤ x ∧ x < 8
theorem wB_name {x : Int} (h : 0 ≤ x ∧ x < 8) : nameB (wB x) = true := by
 have hx : x = 0 ∨ x = 1 ∨ x = 2 ∨ x = 3 ∨ x = 4 ∨ x = 5 ∨ x = 6 ∨ x = 7 := by omega
 rcases hx with rfl | rfl | rfl | rfl | rfl | rfl | rfl | rfl <;> decide
theorem wB_cases : ∀ a, a < 8 → ∀ b, b < 8 → (⟨#[119, UInt8.ofNat (48 + a)]⟩ : ByteArray) = ⟨#[119, UInt8.ofNat (48 + b)]⟩ → a = b := by decide
theorem wB_inj {x y : Int} (hx : 0 ≤ x ∧ x < 8) (hy : 0 ≤ y ∧ y < 8) (h : wB x = wB y) : x = y := by
 have := wB_cases x.toNat (by omega) y.toNat (by omega) h
 omega
theorem bird_name : nameB birdB = true := by decide
theorem sgB_len (l : List Int) (n : Nat) : (sgB l n).length = n + 1 := by simp [sgB]
theorem sgM_len (l : List Int) (n : Nat) : (sgM l n).length = n := by simp [sgM]
theorem sgB_zero (l : List Int) (n : Nat) : (sgB l n)[0]? = some sgR0 := rfl
theorem sgB_at {l : List Int} {n k : Nat} (h : k < n) : (sgB l n)[k + 1]? = some (sgR l k) := by
 unfold sgB
 rw [List.getElem?_cons_succ, List.getElem?_map, List.getElem?_range h]; rfl
theorem sgM_at {l : List Int} {n k : Nat} (h : k < n) : (sgM l n)[k]? = some (wB (l.getD k 0)) := by
 unfold sgM
 rw [List.getElem?_map, List.getElem?_range h]; rfl
theorem sgB_succ (l : List Int) (n : Nat) : sgB l (n + 1) = sgB l n ++ [sgR l n] := by simp [sgB, List.range_succ]
theorem sgM_succ (l : List Int) (n : Nat) : sgM l (n + 1) = sgM l n ++ [wB (l.getD n 0)] := by simp [sgM, List.range_succ]
theorem sgM_take (l : List Int) {n b : Nat} (h : b ≤ n) : (sgM l n).take b = sgM l b := by
 unfold sgM
 rw [← List.map_take]
 congr 1
 apply List.ext_getElem?
 intro i
 rw [List.getElem?_take]
 by_cases hi : i < b
 ·rw [if_pos hi, List.getElem?_range hi, List.getElem?_range (by omega)]
 ·rw [if_neg hi, List.getElem?_eq_none (by simp; omega)]
theorem sgM_name {l : List Int} (h : sgL l) {n : Nat} (hn : n ≤ l.length) : (sgM l n).all nameB = true := by
 rw [List.all_eq_true]
 intro x hx
 unfold sgM at hx
 obtain ⟨k, hk, rfl⟩ := List.mem_map.1 hx
 have hk := List.mem_range.1 hk
 have hkl : k < l.length := by omega
 rw [List.getD_eq_getElem?_getD, List.getElem?_eq_getElem hkl]
 exact wB_name (h.2.2 _ (List.getElem_mem hkl))
theorem sgB_used {l : List Int} {n k : Nat} (hk : k ≤ n) : usedP (sgB l n) 7 (k + 1) = true := by
 have e : ∀ r, (sgB l n)[k]? = some r → usedP (sgB l n) 7 (k + 1) = if (7 : Int) == r.new then r.kind == 3 else if (7 : Int) == r.num then r.kind == 1 || r.kind == 2 else usedP (sgB l n) 7 k := fun r hr => by simp only [usedP, hr]
 cases k with
 | zero => rw [e _ (sgB_zero l n)]; rfl
 | succ k => rw [e _ (sgB_at (by omega))]; rfl
theorem sgB_day {l : List Int} {n k : Nat} (hk : k ≤ n) : dayB (sgB l n) (k + 1) = (k : Int) := by
 have e : ∀ r, (sgB l n)[k]? = some r → dayB (sgB l n) (k + 1) = r.day := fun r hr => by simp only [dayB, hr]
 cases k with
 | zero => rw [e _ (sgB_zero l n)]; rfl
 | succ k => rw [e _ (sgB_at (by omega))]; rfl
theorem sgB_okTo {l : List Int} (h : sgL l) : ∀ k, k ≤ l.length + 1 → okTo (sgB l l.length) k = true
 | 0, _ => rfl
 | 1, _ => by
  have e : okTo (sgB l l.length) 1 = (true && recP (sgB l l.length) 0 0 sgR0) := rfl
  rw [e]
  unfold recP kindP metP
  rw [List.take_zero]
  generalize usedP (sgB l l.length) sgR0.num 0 = u
  revert u
  decide
 | k + 2, hk => by
  have ih := sgB_okTo h (k + 1) (by omega)
  show (okTo _ (k + 1) && _) = true
  rw [ih, sgB_at (show k < l.length by omega)]
  have hkl : k < l.length := by omega
  have hx : 0 ≤ l.getD k 0 ∧ l.getD k 0 < 8 := by
   rw [List.getD_eq_getElem?_getD, List.getElem?_eq_getElem hkl]
   exact h.2.2 _ (List.getElem_mem hkl)
  have hnm := wB_name hx
  have h8 := h.1
  have hdy : inW ((k + 1 : Nat) : Int) (k : Int) 100000 = true := inW_iff.2 (by omega)
  simp only [Bool.true_and]
  unfold recP kindP sgR
  simp only [sgB_day (show k ≤ l.length by omega), sgB_used (show k ≤ l.length by omega), hnm, hdy]
  generalize metP (List.take (k + 1) (sgB l l.length)) 7 = x1
  generalize metP (List.take (k + 1) (sgB l l.length)) 0 = x2
  generalize decide ((wB (l.getD k 0)).size = 0) = x3
  revert x1 x2 x3
  decide
theorem sgB_ok {l : List Int} (h : sgL l) : bookB (sgB l l.length) = true := by
 have h8 := h.1
 unfold bookB
 rw [sgB_len, sgB_okTo h _ (Nat.le_refl _), decide_eq_true (by omega)]; rfl
theorem sgB_cur {l : List Int} {n : Nat} : ∀ k, k ≤ n → cur (sgB l n) (k + 1) 7 = some 0
 | 0, _ => by rw [cur_step (sgB_zero l n)]; rfl
 | k + 1, hk => by
  rw [cur_step (sgB_at (show k < n by omega)), sgB_cur k (by omega)]; rfl
theorem sgB_bear {l : List Int} (h : sgL l) {d : Int} (hd : 0 ≤ d) : bearN (sgB l l.length) 7 d = some 0 := by
 have ho := sgB_okTo h (l.length + 1) (Nat.le_refl _)
 have hu := (upTo_iff (d := d) ho (k := l.length + 1) (j := 0) (Nat.le_refl _) (by omega) (sgB_zero l l.length)).1 hd
 have hle := upTo_le (l := sgB l l.length) (d := d) (k := l.length + 1)
 unfold bearN
 rw [sgB_len]
 obtain ⟨u, e⟩ : ∃ u, upTo (sgB l l.length) d (l.length + 1) = u + 1 := ⟨upTo (sgB l l.length) d (l.length + 1) - 1, by omega⟩
 rw [e]
 exact sgB_cur u (by omega)
theorem sgB_marks {l : List Int} {n : Nat} {d : Int} (hd : 0 ≤ d) : ∀ k, k ≤ n → marksK (sgB l n) 0 d (k + 1) = sgM l (min k d.toNat)
 | 0, _ => by
  rw [marksK_succ (sgB_zero l n), if_neg (by rintro ⟨h, _⟩; cases h), Nat.zero_min]; rfl
 | k + 1, hk => by
  rw [marksK_succ (sgB_at (show k < n by omega)), sgB_marks hd k (by omega)]
  by_cases hc : ((k + 1 : Nat) : Int) ≤ d
  ·rw [if_pos ⟨rfl, hc, sgB_cur k (by omega)⟩]
   rw [show min k d.toNat = k by omega, show min (k + 1) d.toNat = k + 1 by omega, sgM_succ]; rfl
  ·rw [if_neg (fun h => hc h.2.1), List.append_nil]
   rw [show min k d.toNat = d.toNat by omega, show min (k + 1) d.toNat = d.toNat by omega]
theorem sg_head {d : Int} {m : List ByteArray} (hd : 0 ≤ d ∧ d ≤ 100) (hm : m.length ≤ 40) : headOk ⟨7, d, birdB, 0, m⟩ = true := by
 unfold headOk
 simp only
 rw [show inW d 0 100000 = true from inW_iff.2 (by omega), bird_name, decide_eq_true hm]; rfl
theorem sg_true {l : List Int} (h : sgL l) {d : Int} {b : Nat} (hd : 0 ≤ d ∧ d ≤ 100) (hb : min d (l.length : Int) = (b : Int)) : judgeP (sgB l l.length) ⟨7, d, birdB, 0, sgM l b⟩ = ((0, 0), 0) := by
 have h8 := h.1
 have hbl : b ≤ l.length := by omega
 refine judge_ok (c := ⟨7, d, birdB, 0, sgM l b⟩) (sgB_ok h) (sg_head hd (by rw [sgM_len]; omega)) (sgM_name h hbl) (sgB_bear h hd.1) (sgB_zero l _) rfl rfl ?_
 simp only
 rw [sgB_len, sgB_marks hd.1 l.length (Nat.le_refl _), show min l.length d.toNat = b by omega]
 exact diff_self _
theorem sg_false {l : List Int} (h : sgL l) {i k : Nat} (hik : i < k) (hk : k < l.length) : judgeP (sgB l l.length) ⟨7, 50, birdB, 0, ((sgM l l.length).set i (wB (l.getD k 0))).set k (wB (l.getD i 0))⟩ = ((4, (i : Int)), 0) := by
 have h8 := h.1
 have hX : ∀ j, j < l.length → 0 ≤ l.getD j 0 ∧ l.getD j 0 < 8 := fun j hj => by
  rw [List.getD_eq_getElem?_getD, List.getElem?_eq_getElem hj]
  exact h.2.2 _ (List.getElem_mem hj)
 have hll : (((sgM l l.length).set i (wB (l.getD k 0))).set k (wB (l.getD i 0))).length = l.length := by rw [List.length_set, List.length_set, sgM_len]
 have hall : (((sgM l l.length).set i (wB (l.getD k 0))).set k (wB (l.getD i 0))).all nameB = true := by
  rw [List.all_eq_true]
  intro x hx
  rcases List.mem_or_eq_of_mem_set hx with hx | rfl
  ·rcases List.mem_or_eq_of_mem_set hx with hx | rfl
   ·exact List.all_eq_true.1 (sgM_name h (Nat.le_refl _)) x hx
   ·exact wB_name (hX k hk)
  ·exact wB_name (hX i (by omega))
 refine judge_marks (c := ⟨7, 50, birdB, 0, ((sgM l l.length).set i (wB (l.getD k 0))).set k (wB (l.getD i 0))⟩) (sgB_ok h) (sg_head (by omega) (by rw [hll]; omega)) hall (sgB_bear h (show (0 : Int) ≤ 50 by decide)) (sgB_zero l _) rfl rfl ?_
 simp only
 rw [sgB_len, sgB_marks (show (0 : Int) ≤ 50 by decide) l.length (Nat.le_refl _), show min l.length (50 : Int).toNat = l.length by have : (50 : Int).toNat = 50 := rfl; omega]
 have hne : ¬ wB (l.getD i 0) = wB (l.getD k 0) := fun e => by
  have e := wB_inj (hX i (by omega)) (hX k hk) e
  rw [List.getD_eq_getElem?_getD, List.getD_eq_getElem?_getD, List.getElem?_eq_getElem hk, List.getElem?_eq_getElem (show i < l.length by omega)] at e
  have e2 : l[i] = l[k] := by simpa using e
  exact (List.pairwise_iff_getElem.1 h.2.1) i k (by omega) hk hik e2
 refine diffP_some (by rw [sgM_len]; omega) (fun j hj => ?_) ?_
 ·unfold diffAt
  rw [hll, sgM_len, decide_eq_false (show ¬ l.length ≤ j by omega)]
  simp only [Bool.false_or, Bool.not_eq_false', decide_eq_true_eq]
  rw [List.getD_eq_getElem?_getD, List.getD_eq_getElem?_getD, List.getElem?_set_ne (by omega), List.getElem?_set_ne (by omega)]
 ·unfold diffAt
  rw [hll, sgM_len, decide_eq_false (show ¬ l.length ≤ i by omega)]
  simp only [Bool.false_or, Bool.not_eq_true', decide_eq_false_iff_not]
  rw [List.getD_eq_getElem?_getD, List.getD_eq_getElem?_getD, List.getElem?_set_ne (by omega), List.getElem?_set_self (by rw [sgM_len]; omega), sgM_at (by omega)]
  exact hne
end Go.Ow

namespace Go.Ow
open Go Go.RowKit Go.Pm
def tx1 (x : Int) : ByteArray := ⟨(txtF 1 x.toNat).toArray⟩
theorem tx1_cat {x : Int} (h : 0 ≤ x ∧ x < 8) : (⟨#[119]⟩ : ByteArray) ++ tx1 x = wB x ∧ (tx1 x).size = 1 := by
 have hx : x = 0 ∨ x = 1 ∨ x = 2 ∨ x = 3 ∨ x = 4 ∨ x = 5 ∨ x = 6 ∨ x = 7 := by omega
 rcases hx with rfl | rfl | rfl | rfl | rfl | rfl | rfl | rfl <;> decide
theorem best_sg {M : List (Int × Int)} {T : List Int} (hb : tasksB M T = true) (hf : (bestJ M T).2.2 = true) : sgL (bestJ M T).1 ∧ (bestJ M T).1.length = T.length ∧ ∀ x ∈ (bestJ M T).1, 0 ≤ x ∧ x < M.length := by
 obtain ⟨hM, hT, _⟩ := tasks_ok hb
 obtain ⟨h1, h2, h3⟩ := bestJ_ok M T hf
 exact ⟨⟨by omega, h2, fun x hx => by have := h3 x hx; omega⟩, h1, h3⟩
end Go.Ow
namespace Go.Proofs.YtdkboibnokipaaaDoor
open Go.RowKit Go.Pm Go.Ow
open Classical in
noncomputable def txP : List TV → Option TV
 | [.int .i64 x] => if 0 ≤ x ∧ x < 8 then some (.str (tx1 x)) else none
 | _ => none
theorem txP_ok : ∀ a r, txP a = some r → PCalls Tryd.prog 50 a r := by
 intro a r h
 unfold txP at h
 split at h
 ·rename_i x
  split at h
  ·rename_i hc
   cases h
   have := rText_c 0 x.toNat (by omega) (by simp; omega)
   rw [show ((x.toNat : Nat) : Int) = x by omega] at this
   exact this
  ·cases h
 ·cases h
open Classical in
@[go_sem] theorem txP_eq (x : Int) : txP [.int .i64 x] = if 0 ≤ x ∧ x < 8 then some (.str (tx1 x)) else none := rfl
def mkV (k : Nat) : PV := if k = 0 then .t .nilSl else .gsl 3 (k - 1) 1 0 k false
def mkH (l : List Int) (k : Nat) : List (Nat × PO) := if k = 0 then [] else [(2, .grow 0 [.junk] 9 1), (3, .grow (k - 1) (((sgM l k).map TV.str).map PV.t) 9 1)]
noncomputable def spTs0 (l : List Int) (S lt : TV) (P : List TV → Option TV) : Pm.Spec := (((((((noSpec.one 42 rfIn).one 33 rfMod).one 50 txP).one 49 (by1 lt fun v => .int .i64 (idxF (fun x => x == v) 0 l))).one 30 (wkJudgeT S (sgB l l.length))).one 28 (oneP [S] (.int .i64 0))).one 47 P).one 48 (oneP [] (.bool true))
noncomputable def spTs (l : List Int) (S lt : TV) (P : List TV → Option TV) : Pm.Spec := { spTs0 l S lt P with mu := fun t => t == 41 || t == 39, fr := fun g => g == 30 || g == 28, gd := true }
section
variable (l : List Int) (S lt : TV) (P : List TV → Option TV) (g : FuncId) (xs : List TV) (ps : List PV) (hl : List PO) (t : TypeId) (Y : YS)
@[go_sem] theorem spTs_p : (spTs l S lt P).p g xs = Pm.Spec.p (spTs0 l S lt P) g xs := rfl
@[go_sem] theorem spTs_h : (spTs l S lt P).h g ps hl = none := rfl
@[go_sem] theorem spTs_y : (spTs l S lt P).y Y g ps hl = none := rfl
@[go_sem] theorem spTs_pn : (spTs l S lt P).pn g ps hl = none := rfl
@[go_sem] theorem spTs_fz : (spTs l S lt P).fz g = false := rfl
@[go_sem] theorem spTs_fr : (spTs l S lt P).fr g = (g == 30 || g == 28) := rfl
@[go_sem] theorem spTs_yf : (spTs l S lt P).yf g = false := rfl
@[go_sem] theorem spTs_gd : (spTs l S lt P).gd = true := rfl
@[go_sem] theorem spTs_mu : (spTs l S lt P).mu t = (t == 41 || t == 39) := rfl
@[go_sem] theorem spTs_nf : (spTs l S lt P).nf t = false := rfl
end
theorem TopSigned_c {M : List (Int × Int)} {T : List Int} {tT mT : TV} (ht : inR tT T) (hm : menR mT M) (hM : M.length ≤ 140737488355328) (hT : T.length ≤ 140737488355328) (n0 n1 n2 : Int) (hMT : PCalls Tryd.prog 47 [mT, tT] (postsT M T)) : PCalls Tryd.prog 13 [mT, tT, .agg [.int .i64 n0, .int .i64 n1, .int .i64 n2]] (.bool true) := by
 by_cases hb : tasksB M T = true
 rotate_left
 ·have e : postsT M T = .tup [.nilSl, .int .i64 0, .int .i64 105] := by unfold postsT; rw [if_neg hb]
  rw [e] at hMT
  refine pcalls_by Tryd.mixes (Spec.gdt_ok (Spec.one_ok (oneP_ok tSigned_c) (Spec.one_ok (oneP_ok hMT) noSpec_ok))) (fn := Tryd.f13) Tryd.func13 rfl (by kernel_rfl) (by show 3 ≤ _; decide) ?_
  simp +decide -implicitDefEqProofs (maxSteps := 4000000) only [go_sem, Tryd.f13]
 by_cases hf : (bestJ M T).2.2 = true
 rotate_left
 ·have e : postsT M T = .tup [.nilSl, .int .i64 0, .int .i64 4] := by unfold postsT; rw [if_pos hb, if_neg hf]
  rw [e] at hMT
  refine pcalls_by Tryd.mixes (Spec.gdt_ok (Spec.one_ok (oneP_ok tSigned_c) (Spec.one_ok (oneP_ok hMT) noSpec_ok))) (fn := Tryd.f13) Tryd.func13 rfl (by kernel_rfl) (by show 3 ≤ _; decide) ?_
  simp +decide -implicitDefEqProofs (maxSteps := 4000000) only [go_sem, Tryd.f13]
 have e : postsT M T = .tup [lT (bestJ M T).1, .int .i64 (bestJ M T).2.1, .int .i64 0] := by unfold postsT; rw [if_pos hb, if_pos hf]
 rw [e] at hMT
 obtain ⟨hsg, hlT, hrM⟩ := best_sg hb hf
 obtain ⟨hM8, hT8, _⟩ := tasks_ok hb
 obtain ⟨⟨l, w, fd⟩, hS⟩ : ∃ s, bestJ M T = s := ⟨_, rfl⟩
 rw [hS] at hMT hsg hlT hrM
 simp only at hMT hsg hlT hrM
 clear hS hf e hb
 have h8 := hsg.1
 obtain ⟨S, hSd⟩ : ∃ S : TV, S = .sl (recL (sgB l l.length)) (l.length + 1) false := ⟨_, rfl⟩
 have hSb : bkT S (sgB l l.length) := .inr ⟨false, by rw [hSd, sgB_len]⟩
 have hbl : (sgB l l.length).length ≤ 140737488355328 := by rw [sgB_len]; omega
 have hCk := wCheckBook_c hSb hbl
 rw [sgB_ok hsg, if_pos rfl] at hCk
 have hJt : ∀ (d : Int) (b : Nat) (ms : TV), 0 ≤ d ∧ d ≤ 100 → min d (l.length : Int) = (b : Int) → txR ms (sgM l b) → wkJudgeT S (sgB l l.length) [S, .agg [.int .i64 7, .int .i64 d, .str ⟨#[98, 105, 114, 100]⟩, .int .i64 0, ms]] = some (judT ((0, 0), 0)) := fun d b ms hd hbm hms => by
  rw [wkJudgeT_of hms (by rw [sgM_len]; omega)]
  exact congrArg (fun x => some (judT x)) (sg_true hsg hd hbm)
 have hsp : ∀ lt : TV, (∀ v, PCalls Tryd.prog 49 [lt, .int .i64 v] (.int .i64 (idxF (fun x => x == v) 0 l))) → SpecOk Tryd.prog (spTs l S lt (oneP [mT, tT] (.tup [lT l, .int .i64 w, .int .i64 0]))) := fun lt hp => by
  have h : SpecOk Tryd.prog (spTs0 l S lt (oneP [mT, tT] (.tup [lT l, .int .i64 w, .int .i64 0]))) := Spec.one_ok (oneP_ok tSigned_c) (Spec.one_ok (oneP_ok hMT) (Spec.one_ok (oneP_ok hCk) (Spec.one_ok (wkJudgeT_ok hSb hbl) (Spec.one_ok (by1_ok hp) (Spec.one_ok txP_ok (Spec.one_ok rfMod_ok (Spec.one_ok rfIn_ok noSpec_ok)))))))
  exact ⟨h.1, h.2⟩
 have hrl := recL_len (sgB l l.length)
 rw [sgB_len] at hrl
 have hro : ∀ k, k ≤ l.length → (recL (sgB l k)).length = (k + 1) * 5 := fun k hk => by rw [recL_len, sgB_len]
 obtain ⟨d, hd⟩ : ∃ d, n0 % ((l.length : Int) + 2) = d := ⟨_, rfl⟩
 have dd1 := Int.emod_nonneg n0 (show (l.length : Int) + 2 ≠ 0 by omega)
 have dd2 := Int.emod_lt_of_pos n0 (show 0 < (l.length : Int) + 2 by omega)
 rw [hd] at dd1 dd2
 have w2 : IntKind.i64.wrap ((l.length : Int) + 2) = (l.length : Int) + 2 := wrap_in (by omega) (by omega)
 have q1 : (0 : Int) < (l.length : Int) + 2 := by omega
 have q2 : (l.length : Int) + 2 ≤ 9223372036854775807 := by omega
 obtain ⟨b, hbm⟩ : ∃ b : Nat, min d (l.length : Int) = (b : Int) := ⟨(min d (l.length : Int)).toNat, by omega⟩
 have hbl1 : b ≤ l.length := by omega
 have hg8 : ¬ (l.length : Int) > 8 := by omega
 by_cases h0 : l.length = 0
 ·have hl0 : l = [] := List.length_eq_zero_iff.1 h0
  subst hl0
  have hT0 : T = [] := List.length_eq_zero_iff.1 hlT.symm
  subst hT0
  have hb0 : b = 0 := by simpa using hbl1
  subst hb0
  have eL : lT ([] : List Int) = .nilSl := rfl
  have hSe : TV.sl [.int .i64 1, .int .i64 0, .int .i64 7, .str ⟨#[98, 105, 114, 100]⟩, .int .i64 0] 1 false = S := hSd.symm
  have hJ := hJt d 0 .nilSl (by simp only [List.length_nil] at dd2; omega) hbm (.inl ⟨rfl, rfl⟩)
  have w2' : IntKind.i64.wrap 2 = 2 := rfl
  simp only [List.length_nil] at hd hbm hJ
  rw [show ((0 : Nat) : Int) = 0 from rfl] at hbm hd
  rw [show (0 : Int) + 2 = 2 from rfl] at hd
  have hpl : ∀ v, PCalls Tryd.prog 49 [.nilSl, .int .i64 v] (.int .i64 (idxF (fun x => x == v) 0 ([] : List Int))) := fun v => by
   refine pcalls_by Tryd.mixes noSpec_ok (fn := Tryd.f49) Tryd.func49 rfl (by kernel_rfl) (by show 2 ≤ _; decide) ?_
   simp +decide -implicitDefEqProofs (maxSteps := 4000000) only [go_sem, Tryd.f49]
   refine pwpC_loopU (A := Unit) [0, 1, 5] (fun _ => [(6, .t (.int .i64 (-1)))]) (fun _ => []) (fun _ => 0) () (by decide) (fun _ => by rfl) ?_ fun Q1 hQ1 _ I1 hI1 => ?_
   ·simp +decide -implicitDefEqProofs (maxSteps := 4000000) only [go_sem]
    first | done | rfl | trace_state
   ·simp +decide -implicitDefEqProofs (maxSteps := 4000000) only [go_sem]
    refine hQ1 _ _ ?_
    simp +decide -implicitDefEqProofs (maxSteps := 4000000) only [go_sem, idxF]
  refine pcalls_by Tryd.mixes (hsp _ hpl) (fn := Tryd.f13) Tryd.func13 rfl (by kernel_rfl) (by show 3 ≤ _; decide) ?_
  rcases ht with ⟨rfl, _⟩ | ⟨g, rfl⟩
  ·simp +decide -implicitDefEqProofs (maxSteps := 4000000) only [go_sem, Tryd.f13, spTs0, eL]
   refine pwpC_loopU (A := Unit) [0, 1, 5, 7, 10, 11] (fun _ => [(12, .t (.int .i64 0))]) (fun _ => []) (fun _ => 0) () (by decide) (fun _ => by rfl) ?_ fun Q1 hQ1 _ I1 hI1 => ?_
   ·simp +decide -implicitDefEqProofs (maxSteps := 4000000) only [go_sem]
   ·simp +decide -implicitDefEqProofs (maxSteps := 4000000) only [go_sem]
    refine hQ1 _ _ ?_
    simp +decide -implicitDefEqProofs (maxSteps := 4000000) only [go_sem, spTs0, w2', hd, hbm, freezeW, freezeO, closedG, seenF, wr, upo, thawP, thawA, thawC, hSe, hJ, judT]
  ·simp +decide -implicitDefEqProofs (maxSteps := 4000000) only [go_sem, Tryd.f13, spTs0, eL, List.map_nil, List.length_nil]
   refine pwpC_loopU (A := Unit) [0, 1, 5, 7, 10, 11] (fun _ => [(12, .t (.int .i64 0))]) (fun _ => []) (fun _ => 0) () (by decide) (fun _ => by rfl) ?_ fun Q1 hQ1 _ I1 hI1 => ?_
   ·simp +decide -implicitDefEqProofs (maxSteps := 4000000) only [go_sem]
   ·simp +decide -implicitDefEqProofs (maxSteps := 4000000) only [go_sem]
    refine hQ1 _ _ ?_
    simp +decide -implicitDefEqProofs (maxSteps := 4000000) only [go_sem, spTs0, w2', hd, hbm, freezeW, freezeO, closedG, seenF, wr, upo, thawP, thawA, thawC, hSe, hJ, judT]
 have eL := lT_ne h0
 obtain ⟨g, rfl⟩ : ∃ g, tT = .sl (T.map (.int .i64)) T.length g := by
  rcases ht with ⟨_, rfl⟩ | h
  ·exact absurd hlT h0
  ·exact h
 have hM0 : ¬ M.length = 0 := fun e => by
  obtain ⟨x, hx⟩ := List.exists_mem_of_length_pos (show 0 < l.length by omega)
  have := hrM x hx
  omega
 obtain ⟨f, rfl⟩ : ∃ f, mT = .sl (menL M) M.length f := by
  rcases hm with ⟨_, rfl⟩ | h
  ·exact absurd rfl hM0
  ·exact h
 have hee : ((l.length : Int) != (T.length : Int)) = false := by rw [hlT]; simp
 have wM : IntKind.i64.wrap ((M.length : Int) - 1) = (M.length : Int) - 1 := wrap_in (by omega) (by omega)
 have hpl : ∀ v, PCalls Tryd.prog 49 [.sl (l.map (.int .i64)) l.length false, .int .i64 v] (.int .i64 (idxF (fun x => x == v) 0 l)) := fun v => hPlace_c false (by omega) v
 have b0 : (recL (sgB l 0)).map PV.t = [.t (.int .i64 1), .t (.int .i64 0), .t (.int .i64 7), .t (.str ⟨#[98, 105, 114, 100]⟩), .t (.int .i64 0)] := rfl
 refine pcalls_by Tryd.mixes (hsp _ hpl) (fn := Tryd.f13) Tryd.func13 rfl (by kernel_rfl) (by show 3 ≤ _; decide) ?_
 simp +decide -implicitDefEqProofs (maxSteps := 4000000) only [go_sem, Tryd.f13, spTs0, eL, hg8, hee]
 refine pwpC_loopU (A := { k : Nat // k ≤ l.length }) [0, 1, 5, 7] (fun k => [(12, .t (.int .i64 k.1)), (10, .gsl 1 k.1 5 0 (k.1 + 1) false), (11, mkV k.1)]) (fun k => (1, .grow k.1 ((recL (sgB l k.1)).map PV.t) 66 5) :: mkH l k.1) (fun k => l.length - k.1) ⟨0, by omega⟩ (by decide) (fun _ => by rfl) ?_ fun Q1 hQ1 ⟨k, hk⟩ I1 hI1 => ?_
 ·simp +decide -implicitDefEqProofs (maxSteps := 4000000) only [go_sem, show mkV 0 = .t .nilSl from rfl, show mkH l 0 = [] from rfl, b0, Nat.zero_add]
 ·by_cases hlt : (k : Int) < l.length
  ·obtain ⟨x, hx⟩ : ∃ x, l[k]? = some x := ⟨_, List.getElem?_eq_getElem (by omega)⟩
   obtain ⟨hx0, hxM⟩ := hrM x (List.mem_of_getElem? hx)
   have hx8 : x < 8 := by omega
   have hgd : l.getD k 0 = x := by rw [List.getD_eq_getElem?_getD, hx]; rfl
   have d1 := Go.Ow.ints_at hx
   have hin : inW x 0 ((M.length : Int) - 1) = true := inW_iff.2 (by omega)
   have hpx : idxF (fun y => y == x) 0 l = (k : Int) := by rw [idxF_nodup hsg.2.1 hx, Nat.zero_add]
   have hkk : ((k : Int) != (k : Int)) = false := by simp
   obtain ⟨hcat, hsz⟩ := tx1_cat ⟨hx0, hx8⟩
   have hs1 : (ByteArray.mk #[119]).size = 1 := rfl
   have hw := Go.Pm.wS (k := k) (by omega)
   have hbl2 : ((recL (sgB l k)).map PV.t).length = (k + 1) * 5 := by rw [List.length_map, hro k hk]
   have hbk : (recL (sgB l k)).map PV.t ++ [PV.t (.int .i64 2), .t (.int .i64 ((k + 1 : Nat) : Int)), .t (.int .i64 7), .t (.str (wB x)), .t (.int .i64 0)] = (recL (sgB l (k + 1))).map PV.t := by
    rw [sgB_succ]
    unfold recL
    rw [List.flatMap_append, List.map_append]
    congr 1
    simp only [List.flatMap_cons, List.flatMap_nil, List.append_nil]
    unfold sgR
    rw [hgd]; rfl
   have ro1 : (k + 1 + 1) * 48 ≤ 140737488355328 := by omega
   have ro2 : (k + 1) * 16 ≤ 140737488355328 := by omega
   have hms : ((sgM l k).map TV.str).map PV.t ++ [PV.t (.str (wB x))] = ((sgM l (k + 1)).map TV.str).map PV.t := by rw [sgM_succ, hgd]; simp
   have hml : (((sgM l k).map TV.str).map PV.t).length = k := by rw [List.length_map, List.length_map, sgM_len]
   have hml1 : (((sgM l (k + 1)).map TV.str).map PV.t).length = k + 1 := by rw [List.length_map, List.length_map, sgM_len]
   have hmk : (((sgM l (k + 1)).map TV.str).map PV.t)[k]? = some (.t (.str (wB x))) := by rw [List.getElem?_map, List.getElem?_map, sgM_at (by omega), hgd]; rfl
   by_cases hk0 : k = 0
   ·subst hk0
    have hV1 : mkV (0 + 1) = .gsl 3 0 1 0 1 false := rfl
    have hH1 : mkH l (0 + 1) = [(2, .grow 0 [.junk] 9 1), (3, .grow 0 [.t (.str (wB x))] 9 1)] := by
     have : ((sgM l (0 + 1)).map TV.str).map PV.t = [.t (.str (wB x))] := by rw [← hms]; rfl
     unfold mkH
     rw [if_neg (by omega), this]
    obtain ⟨tl, htl⟩ : ∃ tl, (l.map (TV.int .i64)).drop (0 + 1) = tl := ⟨_, rfl⟩
    rw [htl, List.drop_zero] at d1
    have hpos : (0 : Int) < l.length := by omega
    have hw0 : IntKind.i64.wrap 1 = 1 := rfl
    have hbk0 : (recL (sgB l 0)).map PV.t ++ [PV.t (.int .i64 2), .t (.int .i64 1), .t (.int .i64 7), .t (.str (wB x)), .t (.int .i64 0)] = (recL (sgB l 1)).map PV.t := hbk
    simp +decide -implicitDefEqProofs (maxSteps := 4000000) only [go_sem, spTs0, show mkV 0 = .t .nilSl from rfl, show mkH l 0 = [] from rfl, hpos, hw0, hbk0, d1, wM, hin, hpx, hkk, hx0, hx8, hcat, hs1, hsz, hw, hbl2, hbk, Nat.mul_one, Nat.zero_mul, Nat.zero_add, List.drop_zero]
    refine hI1 _ ⟨0 + 1, by omega⟩ (by simp only; omega) ?_
    simp +decide -implicitDefEqProofs (maxSteps := 4000000) only [go_sem, hV1, hH1, d1, hw0, hbk0, cellsW_ts, all_ts, Nat.zero_add]
   ·have hVk : mkV k = .gsl 3 (k - 1) 1 0 k false := if_neg hk0
    have hHk : mkH l k = [(2, .grow 0 [.junk] 9 1), (3, .grow (k - 1) (((sgM l k).map TV.str).map PV.t) 9 1)] := if_neg hk0
    have hVk1 : mkV (k + 1) = .gsl 3 k 1 0 (k + 1) false := if_neg (by omega)
    have hHk1 : mkH l (k + 1) = [(2, .grow 0 [.junk] 9 1), (3, .grow k (((sgM l (k + 1)).map TV.str).map PV.t) 9 1)] := if_neg (by omega)
    have hkk1 : k - 1 + 1 = k := by omega
    have hk1 : (k : Int) < ((k + 1 : Nat) : Int) := by omega
    simp +decide -implicitDefEqProofs (maxSteps := 4000000) only [go_sem, spTs0, hk1, hVk, hHk, hlt, d1, wM, hin, hpx, hkk, hx0, hx8, hcat, hs1, hsz, hw, hbl2, hbk, ro1, ro2, hms, hml, hml1, hmk, hkk1, Nat.mul_one, Nat.zero_mul, Nat.zero_add, List.drop_zero]
    refine hI1 _ ⟨k + 1, by omega⟩ (by simp only; omega) ?_
    simp +decide -implicitDefEqProofs (maxSteps := 4000000) only [go_sem, hVk1, hHk1, cellsW_ts, all_ts]
  ·have hke : k = l.length := by omega
   subst hke
   have hVn : mkV l.length = .gsl 3 (l.length - 1) 1 0 l.length false := if_neg h0
   have hHn : mkH l l.length = [(2, .grow 0 [.junk] 9 1), (3, .grow (l.length - 1) (((sgM l l.length).map TV.str).map PV.t) 9 1)] := if_neg h0
   have hmlN : ((sgM l l.length).map TV.str).length = l.length := by rw [List.length_map, sgM_len]
   have hmlP : (((sgM l l.length).map TV.str).map PV.t).length = l.length := by rw [List.length_map, hmlN]
   have hbi : (b : Int) ≤ l.length := by omega
   have htb : ((sgM l l.length).map TV.str).take b = (sgM l b).map TV.str := by rw [← List.map_take, sgM_take l hbl1]
   have htB : (recL (sgB l l.length)).take ((l.length + 1) * 5) = recL (sgB l l.length) := List.take_of_length_le (by omega)
   have hSe : TV.sl (recL (sgB l l.length)) (l.length + 1) false = S := hSd.symm
   have hJ1 := hJt d b (.sl ((sgM l b).map TV.str) b false) ⟨dd1, by omega⟩ hbm (.inr ⟨false, by rw [sgM_len]⟩)
   by_cases h2 : (l.length : Int) < 2
   ·simp +decide -implicitDefEqProofs (maxSteps := 4000000) only [go_sem, spTs0, hlt, hVn, hHn]
    refine hQ1 _ _ ?_
    simp +decide -implicitDefEqProofs (maxSteps := 4000000) only [go_sem, spTs0, sliceG, hVn, w2, q1, q2, hd, hbm, hbi, hmlN, hmlP, hrl, htb, htB, thawA_ts, idsG_ts, freezeW, freezeO, closedG, seenF, wr, upo, thawP, thawA, thawC, hSe, hJ1, judT, hbl1, h2, Nat.mul_one, Nat.zero_mul, Nat.zero_add, Nat.sub_zero, Nat.le_refl, List.drop_zero]
   ·obtain ⟨N, hN⟩ : ∃ N : Nat, (l.length : Int) - 1 = (N : Int) := ⟨l.length - 1, by omega⟩
    have w3 : IntKind.i64.wrap ((l.length : Int) - 1) = (N : Int) := by rw [wrap_in (by omega) (by omega)]; exact hN
    have q3 : (0 : Int) < (N : Int) := by omega
    have q4 : (N : Int) ≤ 9223372036854775807 := by omega
    have e1 := Int.emod_nonneg n1 (show (N : Int) ≠ 0 by omega)
    have e2 := Int.emod_lt_of_pos n1 q3
    obtain ⟨i, hi⟩ : ∃ i : Nat, n1 % (N : Int) = (i : Int) := ⟨(n1 % (N : Int)).toNat, by omega⟩
    have hiN : i < N := by omega
    have wi := Go.Pm.wS (k := i) (by omega)
    obtain ⟨N2, hN2⟩ : ∃ m : Nat, m = N - i := ⟨_, rfl⟩
    have wN : IntKind.i64.wrap ((N : Int) - (i : Int)) = (N2 : Int) := by rw [wrap_in (by omega) (by omega)]; omega
    have q5 : (0 : Int) < (N2 : Int) := by omega
    have q6 : (N2 : Int) ≤ 9223372036854775807 := by omega
    have e3 := Int.emod_nonneg n2 (show (N2 : Int) ≠ 0 by omega)
    have e4 := Int.emod_lt_of_pos n2 q5
    obtain ⟨j, hj⟩ : ∃ j : Nat, n2 % (N2 : Int) = (j : Int) := ⟨(n2 % (N2 : Int)).toNat, by omega⟩
    obtain ⟨k, hk'⟩ : ∃ k : Nat, k = i + 1 + j := ⟨_, rfl⟩
    have wk : IntKind.i64.wrap (((i + 1 : Nat) : Int) + (j : Int)) = (k : Int) := by rw [wrap_in (by omega) (by omega)]; omega
    have hik : i < k := by omega
    have hkl : k < l.length := by omega
    have hil : i < l.length := by omega
    have hkl' : (k : Int) < l.length := by omega
    have hil' : (i : Int) < l.length := by omega
    obtain ⟨xk, hxk⟩ : ∃ x, wB (l.getD k 0) = x := ⟨_, rfl⟩
    obtain ⟨xi, hxi⟩ : ∃ x, wB (l.getD i 0) = x := ⟨_, rfl⟩
    have gk : ((sgM l l.length).map TV.str)[k]? = some (.str xk) := by rw [List.getElem?_map, sgM_at hkl, hxk]; rfl
    have gi : ((sgM l l.length).map TV.str)[i]? = some (.str xi) := by rw [List.getElem?_map, sgM_at hil, hxi]; rfl
    have gk2 : (((sgM l l.length).map TV.str).map PV.t)[k]? = some (.t (.str xk)) := by rw [List.getElem?_map, gk]; rfl
    have gi2 : (((sgM l l.length).map TV.str).map PV.t)[i]? = some (.t (.str xi)) := by rw [List.getElem?_map, gi]; rfl
    have htP : (((sgM l l.length).map TV.str).map PV.t).take l.length = ((sgM l l.length).map TV.str).map PV.t := List.take_of_length_le (by omega)
    have ro3 : l.length * 16 ≤ 140737488355328 := by omega
    have c1 : i + 1 ≤ l.length := by omega
    have c2 : k + 1 ≤ l.length := by omega
    have hst1 := set_ts ((sgM l l.length).map TV.str) i (.str xk) (by omega)
    have hst2 := set_ts (((sgM l l.length).map TV.str).set i (.str xk)) k (.str xi) (by rw [List.length_set]; omega)
    have hsl1 : ((((sgM l l.length).map TV.str).set i (.str xk)).map PV.t).length = l.length := by rw [List.length_map, List.length_set, hmlN]
    have hsl2 : (((((sgM l l.length).map TV.str).set i (.str xk)).set k (.str xi)).map PV.t).length = l.length := by rw [List.length_map, List.length_set, List.length_set, hmlN]
    have hsl3 : ((((sgM l l.length).map TV.str).set i (.str xk)).set k (.str xi)).length = l.length := by rw [List.length_set, List.length_set, hmlN]
    have htS : ((((sgM l l.length).map TV.str).set i (.str xk)).set k (.str xi)).take l.length = (((sgM l l.length).map TV.str).set i (.str xk)).set k (.str xi) := List.take_of_length_le (by omega)
    have hfin := sg_false hsg hik hkl
    rw [hxk, hxi] at hfin
    have hJ2 : wkJudgeT S (sgB l l.length) [S, .agg [.int .i64 7, .int .i64 50, .str ⟨#[98, 105, 114, 100]⟩, .int .i64 0, .sl ((((sgM l l.length).map TV.str).set i (.str xk)).set k (.str xi)) l.length false]] = some (judT ((4, (i : Int)), 0)) := by
     rw [wkJudgeT_of (marks := ((sgM l l.length).set i xk).set k xi) (.inr ⟨false, by rw [List.map_set, List.map_set, List.length_set, List.length_set, sgM_len]⟩) (by rw [List.length_set, List.length_set, sgM_len]; omega)]
     exact congrArg (fun x => some (judT x)) hfin
    have hii : ((i : Int) == (i : Int)) = true := by simp
    simp +decide -implicitDefEqProofs (maxSteps := 4000000) only [go_sem, spTs0, hlt, hVn, hHn]
    refine hQ1 _ _ ?_
    simp +decide -implicitDefEqProofs (maxSteps := 4000000) only [go_sem, spTs0, sliceG, hVn, w2, q1, q2, hd, hbm, hbi, hmlN, hmlP, hrl, htb, htB, thawA_ts, idsG_ts, freezeW, freezeO, closedG, seenF, wr, upo, thawP, thawA, thawC, hSe, hJ1, judT, hbl1, h2, w3, q3, q4, hi, wi, wN, q5, q6, hj, wk, hkl', hil', gk, gi, gk2, gi2, htP, ro3, c1, c2, hst1, hst2, hsl1, hsl2, hsl3, htS, hJ2, hii, h0, Nat.mul_one, Nat.zero_mul, Nat.zero_add, Nat.sub_zero, Nat.le_refl, List.drop_zero, List.nil_append]
end Go.Proofs.YtdkboibnokipaaaDoor

namespace Go.Proofs.YtdkboibnokipaaaDoor
open Go.RowKit Go.Pm Go.Ow
theorem wInt {k : Nat} {cs : List TV} (h : cellsOk Tryd.prog (k + 1) 3 cs) : ∃ n, cs = [.int .i64 n] ∧ -9223372036854775808 ≤ n ∧ n ≤ 9223372036854775807 := cellsOk_i64 (by kernel_rfl) h
end Go.Proofs.YtdkboibnokipaaaDoor

namespace Go.Proofs.YtdkboibnokipaaaDoor
open Go.RowKit Go.Pm Go.Ow
theorem intsArg {x : TV} (h : argOk Tryd.prog 52 x) : ∃ l : List Int, ((x = .nilSl ∧ l = []) ∨ ∃ f, x = .sl (l.map (.int .i64)) l.length f) ∧ l.length ≤ 140737488355328 ∧ ∀ n ∈ l, -9223372036854775808 ≤ n ∧ n ≤ 9223372036854775807 := by
 obtain ⟨l, h1, h2, h3, h4⟩ := cellsOk_row (e := 3) (c := fun n : Int => [TV.int .i64 n]) (p := fun n => -9223372036854775808 ≤ n ∧ n ≤ 9223372036854775807) (by kernel_rfl) (fun cs hc => by
  obtain ⟨a, rfl, ha⟩ := wInt hc
  exact ⟨a, rfl, ha⟩) (argOk_sl (e := 3) (by kernel_rfl) h)
 rw [show Program.bytesOf Tryd.prog 3 = 8 by kernel_rfl] at h3
 unfold reachBytes at h3
 have hf : ∀ m : List Int, m.flatMap (fun n => [TV.int .i64 n]) = m.map (.int .i64) := fun m => by induction m with
  | nil => rfl
  | cons a m ih => rw [List.flatMap_cons, ih]; rfl
 rw [hf] at h1
 exact ⟨l, h1, by omega, h2⟩
theorem threeArg {x : TV} (h : argOk Tryd.prog 59 x) : ∃ a b c, x = .agg [.int .i64 a, .int .i64 b, .int .i64 c] ∧ (-9223372036854775808 ≤ a ∧ a ≤ 9223372036854775807) ∧ (-9223372036854775808 ≤ b ∧ b ≤ 9223372036854775807) ∧ (-9223372036854775808 ≤ c ∧ c ≤ 9223372036854775807) := by
 obtain ⟨cs, rfl, h'⟩ := argOk_agg (ts := [3, 3, 3]) (by kernel_rfl) h
 have h := cellsOk_tys (ts := [3, 3, 3]) (by kernel_rfl) h'
 obtain ⟨_, r, rfl, h1, h⟩ := seqOk_cons h
 obtain ⟨_, r, rfl, h2, h⟩ := seqOk_cons h
 obtain ⟨_, r, rfl, h3, h⟩ := seqOk_cons h
 cases seqOk_nil h
 obtain ⟨a, rfl, ia⟩ := wInt h1
 obtain ⟨b, rfl, ib⟩ := wInt h2
 obtain ⟨c, rfl, ic⟩ := wInt h3
 exact ⟨a, b, c, rfl, ia, ib, ic⟩
end Go.Proofs.YtdkboibnokipaaaDoor

namespace Go.Proofs.YtdkboibnokipaaaDoor
open Go.RowKit Go.Pm Go.Ow
theorem wk_glob {w : World} {l : List (String × DataW Unit)} (hm : ("octant/wreck.kinds", Rows.laid_octant_wreck_kinds) ∈ l) (h : laidMetH Tryd.prog l w) : GlobOk (allF w) := by
 have hf := h.funcs (n := "octant/wreck.kinds") (d := .agg [.iface "func" (.lit (.string [40, 111, 99, 116, 97, 110, 116, 47, 119, 114, 101, 99, 107, 46, 98, 111, 111, 107, 41, 46, 109, 97, 100, 101])), .iface "func" (.lit (.string [40, 111, 99, 116, 97, 110, 116, 47, 119, 114, 101, 99, 107, 46, 98, 111, 111, 107, 41, 46, 109, 101, 110, 100, 101, 100])), .iface "func" (.lit (.string [40, 111, 99, 116, 97, 110, 116, 47, 119, 114, 101, 99, 107, 46, 98, 111, 111, 107, 41, 46, 97, 103, 97, 105, 110])), .iface "func" (.lit (.string [40, 111, 99, 116, 97, 110, 116, 47, 119, 114, 101, 99, 107, 46, 98, 111, 111, 107, 41, 46, 108, 111, 115, 116]))]) hm
 obtain ⟨g, t, cs, fuel, p, hg, ht, hv, hd⟩ := hf
 have hg0 : Tryd.prog.globalNamed "octant/wreck.kinds" = some 0 := by kernel_rfl
 have ht0 : (Tryd.prog.globals[0]?).map (·.type) = some 129 := by kernel_rfl
 obtain rfl := Option.some.inj (hg0.symm.trans hg)
 obtain rfl := Option.some.inj (ht0.symm.trans ht)
 have hd' : DataW.trod (funcToken Tryd.prog) Tryd.prog w 0 (fun _ => true) true fuel 129 cs.toList = some (.agg [.held [40, 111, 99, 116, 97, 110, 116, 47, 119, 114, 101, 99, 107, 46, 98, 111, 111, 107, 41, 46, 109, 97, 100, 101], .held [40, 111, 99, 116, 97, 110, 116, 47, 119, 114, 101, 99, 107, 46, 98, 111, 111, 107, 41, 46, 109, 101, 110, 100, 101, 100], .held [40, 111, 99, 116, 97, 110, 116, 47, 119, 114, 101, 99, 107, 46, 98, 111, 111, 107, 41, 46, 97, 103, 97, 105, 110], .held [40, 111, 99, 116, 97, 110, 116, 47, 119, 114, 101, 99, 107, 46, 98, 111, 111, 107, 41, 46, 108, 111, 115, 116]], p) := hd
 obtain ⟨xs, m, _, ex, hcl, hl, hel⟩ := DataW.trod_array Tryd.underlying129 hd'
 have hce : Tryd.prog.cellsOf 128 = 1 := by kernel_rfl
 have hct : Tryd.prog.cellsOf 129 = 4 := by kernel_rfl
 rw [hct] at hcl
 simp only [Prod.mk.injEq, DataW.agg.injEq] at ex
 obtain ⟨ex, _⟩ := ex
 match xs, hl, ex, hel with
 | [x0, x1, x2, x3], _, ex, hel =>
  simp only [List.map_cons, List.map_nil, List.cons.injEq, and_true] at ex
  obtain ⟨y0, y1, y2, y3⟩ := ex
  obtain ⟨x0a, x0b⟩ := x0
  obtain ⟨x1a, x1b⟩ := x1
  obtain ⟨x2a, x2b⟩ := x2
  obtain ⟨x3a, x3b⟩ := x3
  simp only at y0 y1 y2 y3
  subst y0; subst y1; subst y2; subst y3
  match hcc : cs.toList, hcl with
  | [v0, v1, v2, v3], _ =>
   rw [hcc, hce] at hel
   have h0 := hel 0 (by omega)
   have h1 := hel 1 (by omega)
   have h2 := hel 2 (by omega)
   have h3 := hel 3 (by omega)
   obtain rfl := func_of_trod (f0 := 163) Tryd.underlying128 (by kernel_rfl) h0
   obtain rfl := func_of_trod (f0 := 164) Tryd.underlying128 (by kernel_rfl) h1
   obtain rfl := func_of_trod (f0 := 160) Tryd.underlying128 (by kernel_rfl) h2
   obtain rfl := func_of_trod (f0 := 165) Tryd.underlying128 (by kernel_rfl) h3
   have hcell : ∀ i, w.cell? ⟨0, i, none⟩ = [Value.func (.func 163) #[] #[], .func (.func 164) #[] #[], .func (.func 160) #[] #[], .func (.func 165) #[] #[]][i]? := fun i => by
    have := World.var?_cell hg hv i
    rw [this, ← Array.getElem?_toList, hcc]
   intro g cs hc
   have hc2 : globs.lookup g = some cs := hc
   by_cases hg1 : g = 0
   ·subst hg1
    have e : cs = [.fn 163 [] [], .fn 164 [] [], .fn 160 [] [], .fn 165 [] []] := (Option.some.inj (show some _ = some cs from hc)).symm
    rw [e]
    refine .cptr _ _ [Value.func (.func 163) #[] #[], .func (.func 164) #[] #[], .func (.func 160) #[] #[], .func (.func 165) #[] #[]] rfl (fun i u hi => ⟨?_, ?_⟩) (fun i c u hi hj => ?_)
    ·rw [add_plain, Nat.zero_add]
     show w.cell? _ = some u
     rw [hcell]; exact hi
    ·match i, hi with
     | 0, hi => cases hi; rfl
     | 1, hi => cases hi; rfl
     | 2, hi => cases hi; rfl
     | 3, hi => cases hi; rfl
    ·match i, hi, hj with
     | 0, hi, hj => cases hi; cases hj; exact .fn _ [] [] [] [] rfl (fun i c u h => by cases h) rfl (fun i c u h => by cases h)
     | 1, hi, hj => cases hi; cases hj; exact .fn _ [] [] [] [] rfl (fun i c u h => by cases h) rfl (fun i c u h => by cases h)
     | 2, hi, hj => cases hi; cases hj; exact .fn _ [] [] [] [] rfl (fun i c u h => by cases h) rfl (fun i c u h => by cases h)
     | 3, hi, hj => cases hi; cases hj; exact .fn _ [] [] [] [] rfl (fun i c u h => by cases h) rfl (fun i c u h => by cases h)
   ·exfalso
    simp [globs, List.lookup] at hc2
    split at hc2 <;> simp_all
noncomputable def wk_start (os : Os) : World := (World.doorLaid Tryd.prog 24 os).layVars Tryd.prog [("unicode/utf8.acceptRanges", Rows.laid_unicode_utf8_acceptRanges), ("unicode/utf8.first", Rows.laid_unicode_utf8_first)]
theorem wk_start_os (os : Os) : (wk_start os).os = os := World.layVars_os _ _ _
theorem wk_shaped (os : Os) (args : Array Value) : ((wk_start os).forCall (fun _ _ => 0) ⟨#[], args, []⟩).Shaped Tryd.prog := World.shaped_of_ZipB (by kernel_rfl) (by kernel_rfl)
end Go.Proofs.YtdkboibnokipaaaDoor

namespace Go.Proofs.YtdkboibnokipaaaDoor
open Go.RowKit Go.Pm Go.Ow
theorem menArg {x : TV} (h : argOk Tryd.prog 77 x) : ∃ l : List (Int × Int), menR x l ∧ l.length ≤ 140737488355328 := by
 obtain ⟨l, h1, h2, h3, h4⟩ := cellsOk_row (e := 143) (c := fun m : Int × Int => [TV.int .i64 m.1, .int .i64 m.2]) (p := fun _ => True) (by kernel_rfl) (fun cs hc => by
  have h := cellsOk_tys (ts := [3, 3]) (by kernel_rfl) hc
  obtain ⟨_, r, rfl, h1, h⟩ := seqOk_cons h
  obtain ⟨_, r, rfl, h2, h⟩ := seqOk_cons h
  cases seqOk_nil h
  obtain ⟨a, rfl, _⟩ := wInt h1
  obtain ⟨b, rfl, _⟩ := wInt h2
  exact ⟨(a, b), rfl, trivial⟩) (argOk_sl (e := 143) (by kernel_rfl) h)
 rw [show Program.bytesOf Tryd.prog 143 = 16 by kernel_rfl] at h3
 unfold reachBytes at h3
 exact ⟨l, h1, by omega⟩
theorem wk_met1 (os : Os) (args : Array Value) : laidMetH Tryd.prog [("octant/wreck.kinds", Rows.laid_octant_wreck_kinds)] ((wk_start os).forCall (fun _ _ => 0) ⟨#[], args, []⟩).memory := by
 refine laidMetH_of_parts3 (fuel := 8) ?_ (by kernel_rfl) (by kernel_rfl)
 have e0 : ([("octant/wreck.kinds", Rows.laid_octant_wreck_kinds)] : List (String × DataW Unit)).filter (fun x => x.2.handleName?.isNone) = [] := by kernel_rfl
 rw [e0]
 exact ⟨[], rfl, List.nodup_nil, fun _ _ h => by cases h⟩
end Go.Proofs.YtdkboibnokipaaaDoor
