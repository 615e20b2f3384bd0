/- The pure machine, part J: a call knows some of the objects, by numbers of its own. -/
import Derived.Test.YtgofljmnlfnlnaaQmI
namespace Go.Pm
open Go Go.RowKit

variable {P : Program} {C : Cx} {F F' : Fz} {φ φ' φl φl' : Nat → Nat × Nat} {h h' hl hl' : Hp} {w w' : World}

/-- The objects ids, numbered from 0 on. -/
structure Ren (ids : List Nat) (φ : Nat → Nat × Nat) (h : Hp) (φl : Nat → Nat × Nat) (hl : Hp) : Prop where
  at_ : ∀ (i j : Nat), ids[i]? = some j → h j = (hl i).ren ids ∧ φ j = φl i
  out : ∀ i, ids.length ≤ i → hl i = .res

theorem getD_of {ids : List Nat} {i j : Nat} (h : ids[i]? = some j) : ids.getD i 0 = j := by rw [List.getD_eq_getElem?_getD, h]; rfl
theorem at_lt {ids : List Nat} {i : Nat} (h : i < ids.length) : ids[i]? = some (ids.getD i 0) := by rw [List.getD_eq_getElem?_getD, List.getElem?_eq_getElem h]; rfl

theorem Ren.box {ids : List Nat} (R : Ren ids φ h φl hl) {i : Nat} (hi : i < ids.length) : isBox h (ids.getD i 0) ↔ isBox hl i := by
  have := (R.at_ i _ (at_lt hi)).1
  unfold isBox
  rw [this]
  cases hl i with
  | box c => simp [PO.ren]
  | ro c => simp [PO.ren]
  | _ => simp [PO.ren]
theorem Ren.lt_of_box {ids : List Nat} (R : Ren ids φ h φl hl) {i : Nat} (hb : isBox hl i) : i < ids.length := by
  rcases Nat.lt_or_ge i ids.length with h1 | h1
  · exact h1
  · rcases hb with ⟨c, hc⟩ | ⟨c, hc⟩ <;> (rw [R.out i h1] at hc; cases hc)
theorem Ren.grow {ids : List Nat} (R : Ren ids φ h φl hl) {i : Nat} (hi : i < ids.length) : growInfo (h (ids.getD i 0)) = growInfo (hl i) := by
  rw [(R.at_ i _ (at_lt hi)).1]; cases hl i <;> rfl
theorem Ren.map {ids : List Nat} (R : Ren ids φ h φl hl) {i : Nat} (hi : i < ids.length) : mapInfo (h (ids.getD i 0)) = mapInfo (hl i) := by
  rw [(R.at_ i _ (at_lt hi)).1]; cases hl i <;> rfl
theorem Ren.lt_of {ids : List Nat} (R : Ren ids φ h φl hl) {i : Nat} (hb : hl i ≠ .res) : i < ids.length := by
  rcases Nat.lt_or_ge i ids.length with h1 | h1
  · exact h1
  · exact absurd (R.out i h1) hb
theorem Ren.live {ids : List Nat} (R : Ren ids φ h φl hl) {i j : Nat} (hi : ids[i]? = some j) : (h j).live = (hl i).live := by
  rw [(R.at_ i j hi).1]; cases hl i <;> rfl
theorem Ren.lt_of_live {ids : List Nat} (R : Ren ids φ h φl hl) {i : Nat} (hb : (hl i).live = true) : i < ids.length := by
  rcases Nat.lt_or_ge i ids.length with h1 | h1
  · exact h1
  · rw [R.out i h1] at hb; cases hb

theorem Ren.down {ids : List Nat} (R : Ren ids φ h φl hl) {p : PV} {u : Value} (hu : p.under ids.length = true) (hr : RepP F φ h (p.ren ids) u) : RepP F φl hl p u := by
  induction p generalizing u with
  | t x => exact hr
  | ptr i off =>
    have hi : i < ids.length := by simpa [PV.under] using hu
    obtain ⟨h1, h2⟩ := hr
    exact ⟨(R.box hi).1 h1, by rw [h2, (R.at_ i _ (at_lt hi)).2]⟩
  | own cs n i =>
    have hi : i < ids.length := by simpa [PV.under] using hu
    obtain ⟨h0, h1, m, e, h2, h3, h4⟩ := hr
    have ho := (R.at_ i _ (at_lt hi)).1
    rw [h2] at ho
    have h2' : hl i = .tok m e := by cases hh : hl i <;> rw [hh] at ho <;> simp [PO.ren] at ho; rw [ho.1, ho.2]
    exact ⟨h0, h1, m, e, h2', h3, fun e' hp => by rw [h4 e' hp, (R.at_ i _ (at_lt hi)).2]⟩
  | fnc f is =>
    have hi : ∀ i ∈ is, i < ids.length := by simpa [PV.under, List.all_eq_true] using hu
    obtain ⟨h1, h2⟩ := hr
    refine ⟨fun i him => (R.box (hi i him)).1 (h1 _ (List.mem_map.2 ⟨i, him, rfl⟩)), ?_⟩
    rw [h2, List.map_map]
    congr 2
    exact List.map_congr_left fun i him => by simp only [Function.comp]; rw [(R.at_ i _ (at_lt (hi i him))).2]
  | yld l => exact hr
  | cond b p ih => exact ⟨fun hb => ih (by simpa [PV.under] using hu) (hr.1 hb), hr.2⟩
  | gsl i ver sz o n full =>
    have hi : i < ids.length := by simpa [PV.under] using hu
    obtain ⟨v, e, cap, a, h1, h2, h3, h4, h5, h6, h7⟩ := hr
    rw [R.grow hi] at h1
    rw [(R.at_ i _ (at_lt hi)).2] at h7
    exact ⟨v, e, cap, a, h1, h2, h3, h4, h5, h6, h7⟩
  | gptr i ver off =>
    have hi : i < ids.length := by simpa [PV.under] using hu
    obtain ⟨v, e, sz, a, h1, h2, h3, h4⟩ := hr
    rw [R.grow hi] at h1
    rw [(R.at_ i _ (at_lt hi)).2] at h4
    exact ⟨v, e, sz, a, h1, h2, h3, h4⟩
  | mapr i =>
    have hi : i < ids.length := by simpa [PV.under] using hu
    obtain ⟨t, h1, h2⟩ := hr
    rw [R.map hi] at h1
    rw [(R.at_ i _ (at_lt hi)).2] at h2
    exact ⟨t, h1, h2⟩
  | nil => exact hr
  | cons b p q ih1 ih2 =>
    simp only [PV.under, Bool.and_eq_true] at hu
    obtain ⟨v, us, h1, h2, h3, h4⟩ := hr
    exact ⟨v, us, h1, ih1 hu.1 h2, ih2 hu.2 h3, h4⟩
  | junk => trivial
theorem Ren.up {ids : List Nat} (R : Ren ids φ h φl hl) {p : PV} {u : Value} (hr : RepP F φl hl p u) : RepP F φ h (p.ren ids) u := by
  induction p generalizing u with
  | t x => exact hr
  | ptr i off =>
    obtain ⟨h1, h2⟩ := hr
    have hi := R.lt_of_box h1
    exact ⟨(R.box hi).2 h1, by rw [h2, (R.at_ i _ (at_lt hi)).2]⟩
  | own cs n i =>
    obtain ⟨h0, h1, m, e, h2, h3, h4⟩ := hr
    have hi : i < ids.length := R.lt_of (fun e => by rw [e] at h2; cases h2)
    have ho := (R.at_ i _ (at_lt hi)).1
    rw [h2] at ho
    exact ⟨h0, h1, m, e, ho, h3, fun e' hp => by rw [h4 e' hp, (R.at_ i _ (at_lt hi)).2]⟩
  | fnc f is =>
    obtain ⟨h1, h2⟩ := hr
    refine ⟨fun j hj => ?_, ?_⟩
    · obtain ⟨i, him, rfl⟩ := List.mem_map.1 hj
      exact (R.box (R.lt_of_box (h1 i him))).2 (h1 i him)
    · rw [h2, List.map_map]
      congr 2
      exact List.map_congr_left fun i him => by simp only [Function.comp]; rw [(R.at_ i _ (at_lt (R.lt_of_box (h1 i him)))).2]
  | yld l => exact hr
  | cond b p ih => exact ⟨fun hb => ih (hr.1 hb), hr.2⟩
  | gsl i ver sz o n full =>
    obtain ⟨v, e, cap, a, h1, h2, h3, h4, h5, h6, h7⟩ := hr
    have hi : i < ids.length := R.lt_of (fun e => by rw [e] at h1; cases h1)
    rw [← R.grow hi] at h1
    rw [← (R.at_ i _ (at_lt hi)).2] at h7
    exact ⟨v, e, cap, a, h1, h2, h3, h4, h5, h6, h7⟩
  | gptr i ver off =>
    obtain ⟨v, e, sz, a, h1, h2, h3, h4⟩ := hr
    have hi : i < ids.length := R.lt_of (fun e => by rw [e] at h1; cases h1)
    rw [← R.grow hi] at h1
    rw [← (R.at_ i _ (at_lt hi)).2] at h4
    exact ⟨v, e, sz, a, h1, h2, h3, h4⟩
  | mapr i =>
    obtain ⟨t, h1, h2⟩ := hr
    have hi : i < ids.length := R.lt_of (fun e => by rw [e] at h1; cases h1)
    rw [← R.map hi] at h1
    rw [← (R.at_ i _ (at_lt hi)).2] at h2
    exact ⟨t, h1, h2⟩
  | nil => exact hr
  | cons b p q ih1 ih2 =>
    obtain ⟨v, us, h1, h2, h3, h4⟩ := hr
    exact ⟨v, us, h1, ih1 h2, ih2 h3, h4⟩
  | junk => trivial

theorem Ren.objDown {ids : List Nat} (R : Ren ids φ h φl hl) {i j : Nat} (hi : ids[i]? = some j) (hu : (hl i).under ids.length = true) (hr : RepO P F φ h w j (h j)) : RepO P F φl hl w i (hl i) := by
  obtain ⟨e1, e2⟩ := R.at_ i j hi
  rw [e1] at hr
  cases ho : hl i with
  | box cells =>
    rw [ho] at hr hu
    obtain ⟨us, ty, h1, h2, h3, h4⟩ := hr
    refine ⟨us, ty, by rw [← e2]; exact h1, by simpa using h2, fun k c u hc hku => ?_, fun k => by rw [← e2]; exact h4 k⟩
    have := h3 k (c.ren ids) u (by rw [List.getElem?_map, hc]; rfl) hku
    have hcu : c.under ids.length = true := by
      simp only [PO.under, List.all_eq_true] at hu
      exact hu c (List.mem_of_getElem? hc)
    exact ⟨R.down hcu this.1, this.2⟩
  | ro cells =>
    rw [ho] at hr
    obtain ⟨us, ty, h1, h2, h3, h4⟩ := hr
    exact ⟨us, ty, by rw [← e2]; exact h1, h2, h3, fun k u hk => by rw [← e2]; exact h4 k u hk⟩
  | grow v cells e sz =>
    rw [ho] at hr hu
    obtain ⟨us, h1, h2, h3, h4, h5, h6⟩ := hr
    refine ⟨us, by rw [← e2]; exact h1, by rw [← e2]; exact h2, by simpa using h3, h4, fun k c u hc hku => ?_, fun k => by rw [← e2]; exact h6 k⟩
    have := h5 k (c.ren ids) u (by rw [List.getElem?_map, hc]; rfl) hku
    have hcu : c.under ids.length = true := by
      simp only [PO.under, List.all_eq_true] at hu
      exact hu c (List.mem_of_getElem? hc)
    exact ⟨R.down hcu this.1, this.2⟩
  | gro v cells e sz =>
    rw [ho] at hr
    obtain ⟨us, h1, h2, h3, h4, h5⟩ := hr
    exact ⟨us, by rw [← e2]; exact h1, by rw [← e2]; exact h2, h3, h4, fun k c u hc hku => by rw [← e2]; exact h5 k c u hc hku⟩
  | mp t m =>
    rw [ho] at hr
    obtain ⟨es, clock, ents, h1, h2, h3, h4⟩ := hr
    exact ⟨es, clock, ents, by rw [← e2]; exact h1, h2, h3, h4⟩
  | tok n e =>
    rw [ho] at hr
    intro h0
    obtain ⟨us, h1, h2, h3, h4⟩ := hr h0
    exact ⟨us, by rw [← e2]; exact h1, by rw [← e2]; exact h2, by rw [← e2]; exact h3, fun k hk => by rw [← e2]; exact h4 k hk⟩
  | cnt => trivial
  | res => trivial
theorem Ren.objUp {ids : List Nat} (R : Ren ids φ h φl hl) {i j : Nat} (hi : ids[i]? = some j) (hr : RepO P F φl hl w i (hl i)) : RepO P F φ h w j (h j) := by
  obtain ⟨e1, e2⟩ := R.at_ i j hi
  rw [e1]
  cases ho : hl i with
  | box cells =>
    rw [ho] at hr
    obtain ⟨us, ty, h1, h2, h3, h4⟩ := hr
    refine ⟨us, ty, by rw [e2]; exact h1, by simpa using h2, fun k c u hc hku => ?_, fun k => by rw [e2]; exact h4 k⟩
    rw [List.getElem?_map, Option.map_eq_some_iff] at hc
    obtain ⟨c', hc', rfl⟩ := hc
    have := h3 k c' u hc' hku
    exact ⟨R.up this.1, this.2⟩
  | ro cells =>
    rw [ho] at hr
    obtain ⟨us, ty, h1, h2, h3, h4⟩ := hr
    exact ⟨us, ty, by rw [e2]; exact h1, h2, h3, fun k u hk => by rw [e2]; exact h4 k u hk⟩
  | grow v cells e sz =>
    rw [ho] at hr
    obtain ⟨us, h1, h2, h3, h4, h5, h6⟩ := hr
    refine ⟨us, by rw [e2]; exact h1, by rw [e2]; exact h2, by simpa using h3, h4, fun k c u hc hku => ?_, fun k => by rw [e2]; exact h6 k⟩
    rw [List.getElem?_map, Option.map_eq_some_iff] at hc
    obtain ⟨c', hc', rfl⟩ := hc
    have := h5 k c' u hc' hku
    exact ⟨R.up this.1, this.2⟩
  | gro v cells e sz =>
    rw [ho] at hr
    obtain ⟨us, h1, h2, h3, h4, h5⟩ := hr
    exact ⟨us, by rw [e2]; exact h1, by rw [e2]; exact h2, h3, h4, fun k c u hc hku => by rw [e2]; exact h5 k c u hc hku⟩
  | mp t m =>
    rw [ho] at hr
    obtain ⟨es, clock, ents, h1, h2, h3, h4⟩ := hr
    exact ⟨es, clock, ents, by rw [e2]; exact h1, h2, h3, h4⟩
  | tok n e =>
    rw [ho] at hr
    intro h0
    obtain ⟨us, h1, h2, h3, h4⟩ := hr h0
    exact ⟨us, by rw [e2]; exact h1, by rw [e2]; exact h2, by rw [e2]; exact h3, fun k hk => by rw [e2]; exact h4 k hk⟩
  | cnt => trivial
  | res => trivial

/-- The writes that lay what a call left of its objects. -/
def renW (ids : List Nat) (hl' : Hp) : Wr := (List.range ids.length).map fun i => (ids.getD i 0, (hl' i).ren ids)
theorem wr_append (h : Hp) (W W' : Wr) : wr h (W ++ W') = wr (wr h W) W' := by simp [wr]
theorem wr_out : ∀ (W : Wr) (h : Hp) (j : Nat), (∀ o, (j, o) ∉ W) → wr h W j = h j
  | [], _, _, _ => rfl
  | p :: W, h, j, hj => by
    show wr (upo h p.1 p.2) W j = _
    rw [wr_out W _ j fun o ho => hj o (List.mem_cons_of_mem _ ho), upo_other]
    rintro rfl; exact hj p.2 List.mem_cons_self
theorem wr_in : ∀ (W : Wr) (h : Hp) (j : Nat) (o : PO), (W.map (·.1)).Nodup → (j, o) ∈ W → wr h W j = o
  | p :: W, h, j, o, hn, hj => by
    show wr (upo h p.1 p.2) W j = _
    simp only [List.map_cons, List.nodup_cons] at hn
    rcases List.mem_cons.1 hj with e | hj
    · subst e
      rw [wr_out W _ _ fun o' ho' => hn.1 (List.mem_map.2 ⟨_, ho', rfl⟩), upo_same]
    · exact wr_in W _ j o hn.2 hj
theorem renW_fst (ids : List Nat) (hl' : Hp) : (renW ids hl').map (·.1) = ids := by
  unfold renW
  rw [List.map_map]
  apply List.ext_getElem?
  intro i
  by_cases hi : i < ids.length
  · simp [hi, List.getD_eq_getElem?_getD]
  · simp [hi, List.getElem?_eq_none (Nat.le_of_not_lt hi)]
theorem renW_at {ids : List Nat} (hn : ids.Nodup) {i j : Nat} (hi : ids[i]? = some j) : wr h (renW ids hl') j = (hl' i).ren ids := by
  refine wr_in _ _ _ _ (by rw [renW_fst]; exact hn) (List.mem_map.2 ⟨i, List.mem_range.2 (List.getElem?_eq_some_iff.1 hi).1, ?_⟩)
  rw [getD_of hi]
theorem renW_out {ids : List Nat} {j : Nat} (hj : j ∉ ids) : wr h (renW ids hl') j = h j := by
  refine wr_out _ _ _ fun o ho => hj ?_
  rw [← renW_fst ids hl']
  exact List.mem_map.2 ⟨_, ho, rfl⟩

theorem nodup_at {ids : List Nat} (hn : ids.Nodup) {i i' j : Nat} (h1 : ids[i]? = some j) (h2 : ids[i']? = some j) : i = i' := by
  obtain ⟨l1, e1⟩ := List.getElem?_eq_some_iff.1 h1
  obtain ⟨l2, e2⟩ := List.getElem?_eq_some_iff.1 h2
  exact (List.getElem_inj hn).1 (e1.trans e2.symm)

/-- The objects as a call sees them. -/
theorem RH.sub (H : RH P C F φ h w) {ids : List Nat} (hn : ids.Nodup) (R : Ren ids φ h φl hl) (hu : ∀ (i j : Nat), ids[i]? = some j → (hl i).under ids.length = true) : RH P (loc w F φl hl) F φl hl w := by
  refine ⟨H.agree, Fz.le_refl _, fun a u h1 h2 => (by rw [show F a = none from h2] at h1; cases h1), fun i => ?_, fun i j li lj e => ?_, fun i li => .inr ⟨i, li, rfl⟩, Bel.refl _ _, HStep.refl _ _⟩
  · rcases Nat.lt_or_ge i ids.length with hi | hi
    · exact R.objDown (at_lt hi) (hu i _ (at_lt hi)) (H.objs _)
    · rw [R.out i hi]; trivial
  · have hi := at_lt (R.lt_of_live li)
    have hj := at_lt (R.lt_of_live lj)
    have e2 := H.inj _ _ (by rw [R.live hi]; exact li) (by rw [R.live hj]; exact lj) (by rw [(R.at_ _ _ hi).2, (R.at_ _ _ hj).2]; exact e)
    rw [e2] at hi
    exact nodup_at hn hi hj

/-- BEHIND A CALL that knew of the objects ids. -/
theorem RH.join (H : RH P C F φ h w) {ids : List Nat} (hn : ids.Nodup) (R : Ren ids φ h φl hl) (H' : RH P (loc w F φl hl) F' φl' hl' w') (hout : ∀ i, ids.length ≤ i → hl' i = .res) :
    ∃ φ', RH P C F' φ' (wr h (renW ids hl')) w' ∧ Ren ids φ' (wr h (renW ids hl')) φl' hl' := by
  let φ' : Nat → Nat × Nat := fun j => if j ∈ ids then φl' (ids.idxOf j) else φ j
  have hin : ∀ (i j : Nat), ids[i]? = some j → φ' j = φl' i := by
    intro i j hi
    have hm : j ∈ ids := List.mem_of_getElem? hi
    show (if j ∈ ids then φl' (ids.idxOf j) else φ j) = _
    rw [if_pos hm]
    have : ids[ids.idxOf j]? = some j := by rw [List.getElem?_eq_getElem (List.idxOf_lt_length_iff.2 hm)]; simp
    rw [nodup_at hn this hi]
  have hnot : ∀ j, j ∉ ids → φ' j = φ j := fun j hj => if_neg hj
  have R' : Ren ids φ' (wr h (renW ids hl')) φl' hl' := ⟨fun i j hi => ⟨renW_at hn hi, hin i j hi⟩, hout⟩
  have hmem : ∀ j, j ∈ ids → ∃ i, ids[i]? = some j := fun j hj => by
    obtain ⟨i, hi, e⟩ := List.getElem_of_mem hj
    exact ⟨i, by rw [List.getElem?_eq_getElem hi, e]⟩
  have hown : ∀ b, own φl hl b → own φ h b := by
    rintro b ⟨i, li, e⟩
    have hi := at_lt (R.lt_of_live li)
    exact ⟨_, by rw [R.live hi]; exact li, by rw [(R.at_ _ _ hi).2]; exact e⟩
  have hapart : ∀ j, j ∉ ids → (h j).live = true → ¬ own φl hl (φ j).1 := by
    rintro j hj lj ⟨i, li, e⟩
    have hi := at_lt (R.lt_of_live li)
    have := H.inj _ j (by rw [R.live hi]; exact li) lj (by rw [(R.at_ _ _ hi).2]; exact e)
    exact hj (this ▸ List.mem_of_getElem? hi)
  have hs : HStep φ φ' h (wr h (renW ids hl')) := by
    intro j
    by_cases hj : j ∈ ids
    · obtain ⟨i, hi⟩ := hmem j hj
      have hst := H'.step i
      obtain ⟨a1, a2⟩ := R.at_ i j hi
      have e1 := hin i j hi
      have b1 := renW_at (h := h) (hl' := hl') hn hi
      change (match hl i with
        | .box _ => isBox hl' i ∧ φl' i = φl i
        | .ro c => hl' i = .ro c ∧ φl' i = φl i
        | .grow v _ e sz => ∃ v', growInfo (hl' i) = some (v', e, sz) ∧ v ≤ v' ∧ (v' = v → φl' i = φl i)
        | .gro v c e sz => hl' i = .gro v c e sz ∧ φl' i = φl i
        | .mp t _ => mapInfo (hl' i) = some t ∧ φl' i = φl i
        | .tok n e => ∃ n', hl' i = .tok n' e ∧ n ≤ n' ∧ (n' = n → φl' i = φl i)
        | .cnt _ => ∃ n, hl' i = .cnt n
        | .res => True) at hst
      rw [a1]
      cases ho : hl i with
      | box c =>
        rw [ho] at hst
        obtain ⟨s1, s2⟩ := hst
        refine ⟨?_, by rw [e1, s2, a2]⟩
        unfold isBox
        rw [b1]
        rcases s1 with ⟨c', hc'⟩ | ⟨c', hc'⟩
        · exact .inl ⟨_, by rw [hc']; rfl⟩
        · exact .inr ⟨_, by rw [hc']; rfl⟩
      | ro c =>
        rw [ho] at hst
        exact ⟨by rw [b1, hst.1]; rfl, by rw [e1, hst.2, a2]⟩
      | grow v c e sz =>
        rw [ho] at hst
        obtain ⟨v', s1, s2, s3⟩ := hst
        exact ⟨v', (by rw [b1]; cases hh : hl' i <;> rw [hh] at s1 <;> first | (cases s1; rfl) | cases s1), s2, fun e => by rw [e1, s3 e, a2]⟩
      | gro v c e sz =>
        rw [ho] at hst
        exact ⟨by rw [b1, hst.1]; rfl, by rw [e1, hst.2, a2]⟩
      | mp t m =>
        rw [ho] at hst
        exact ⟨(by rw [b1]; have s1 := hst.1; cases hh : hl' i <;> rw [hh] at s1 <;> first | (cases s1; rfl) | cases s1), by rw [e1, hst.2, a2]⟩
      | tok n e =>
        rw [ho] at hst
        obtain ⟨n', s1, s2, s3⟩ := hst
        exact ⟨n', by rw [b1, s1]; rfl, s2, fun e => by rw [e1, s3 e, a2]⟩
      | cnt n =>
        rw [ho] at hst
        obtain ⟨n', s1⟩ := hst
        exact ⟨n', by rw [b1, s1]; rfl⟩
      | res => trivial
    · have e1 := hnot j hj
      have b1 := renW_out (h := h) (hl' := hl') hj
      cases ho : h j with
      | box c => exact ⟨.inl ⟨c, by rw [b1]; exact ho⟩, e1⟩
      | ro c => exact ⟨by rw [b1]; exact ho, e1⟩
      | grow v c e sz => exact ⟨v, by rw [b1, ho]; rfl, Nat.le_refl _, fun _ => e1⟩
      | gro v c e sz => exact ⟨by rw [b1]; exact ho, e1⟩
      | mp t m => exact ⟨by rw [b1, ho]; rfl, e1⟩
      | tok n e => exact ⟨n, by rw [b1]; exact ho, Nat.le_refl _, fun _ => e1⟩
      | cnt n => exact ⟨n, by rw [b1]; exact ho⟩
      | res => trivial
  refine ⟨φ', H.trans ?_, R'⟩
  refine ⟨H'.agree, H'.more, fun a u h1 h2 => ?_, fun j => ?_, fun j k lj lk e => ?_, fun j lj => ?_, ⟨H'.bel.os, H'.bel.tape, H'.bel.output, H'.bel.size, fun k hk he => H'.bel.block k hk fun ho => he (hown _ ho)⟩, hs⟩
  · rcases H'.news a u h1 h2 with h3 | h3
    · exact .inl h3
    · exact .inr (hown _ h3)
  · by_cases hj : j ∈ ids
    · obtain ⟨i, hi⟩ := hmem j hj
      exact R'.objUp hi (H'.objs i)
    · rw [renW_out hj]
      refine (H.objs j).step (fun _ => hnot j hj) hs H'.more (fun lj i => ?_) (fun lj => H'.bel.block _ (H.blk lj) (hapart j hj lj))
      cases hFa : F ⟨(φ j).1, i, none⟩ with
      | some v => exact H'.more _ _ hFa
      | none =>
        cases hFb : F' ⟨(φ j).1, i, none⟩ with
        | none => rfl
        | some v =>
          rcases H'.news _ _ hFb hFa with h3 | h3
          · have := H.blk lj; exact absurd (show w.heap.size ≤ (φ j).1 from h3) (by omega)
          · exact absurd h3 (hapart j hj lj)
  · have key : ∀ (i j k : Nat), ids[i]? = some j → k ∉ ids → (wr h (renW ids hl') j).live = true → (wr h (renW ids hl') k).live = true → (φ' j).1 = (φ' k).1 → False := by
      intro i j k hi hk lj lk e
      rw [renW_out hk] at lk
      rw [hin i j hi, hnot k hk] at e
      rw [R'.live hi] at lj
      rcases H'.high i lj with h3 | h3
      · have := H.blk lk; rw [e] at h3; exact absurd (show w.heap.size ≤ (φ k).1 from h3) (by omega)
      · rw [e] at h3; exact hapart k hk lk h3
    by_cases hj : j ∈ ids <;> by_cases hk : k ∈ ids
    · obtain ⟨i, hi⟩ := hmem j hj
      obtain ⟨i', hi'⟩ := hmem k hk
      rw [R'.live hi] at lj; rw [R'.live hi'] at lk
      rw [hin i j hi, hin i' k hi'] at e
      have := H'.inj i i' lj lk e
      subst this
      rw [hi] at hi'; exact Option.some.inj hi'
    · obtain ⟨i, hi⟩ := hmem j hj
      exact (key i j k hi hk lj lk e).elim
    · obtain ⟨i, hi⟩ := hmem k hk
      exact (key i k j hi hj lk lj e.symm).elim
    · rw [renW_out hj] at lj; rw [renW_out hk] at lk
      rw [hnot j hj, hnot k hk] at e
      exact H.inj j k lj lk e
  · by_cases hj : j ∈ ids
    · obtain ⟨i, hi⟩ := hmem j hj
      rw [R'.live hi] at lj
      rw [hin i j hi]
      rcases H'.high i lj with h3 | h3
      · exact .inl h3
      · exact .inr (hown _ h3)
    · rw [renW_out hj] at lj
      rw [hnot j hj]
      exact .inr ⟨j, lj, rfl⟩

end Go.Pm
