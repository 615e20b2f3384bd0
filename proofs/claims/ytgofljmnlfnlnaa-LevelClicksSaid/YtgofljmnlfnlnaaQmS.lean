/- The pure machine, part S: what may be forgotten. -/
import Derived.Test.YtgofljmnlfnlnaaQmR
namespace Go.Pm
open Go Go.RowKit

variable {P : Program} {C : Cx} {F F' : Fz} {φ φ' : Nat → Nat × Nat} {h h' : Hp} {w w' : World} {J : Gh}

def PLe (h' : Hp) (p p' : PV) : Prop := p' = .junk ∨ p' = p ∨ (∃ x, p.toT = some x ∧ p' = .t x) ∨ (p.toT = some .nilSl ∧ ∃ id m e, p' = .own [] 0 id ∧ h' id = .tok m e)
/-- A list of values of the sort that a variable has. -/
def LLe (h' : Hp) (cs cs' : List PV) : Prop := cs'.length = cs.length ∧ ∀ (i : Nat) (c c' : PV), cs[i]? = some c → cs'[i]? = some c' → PLe h' c c'
def OLe (h' : Hp) (o o' : PO) : Prop := o' = o ∨ (o = .res ∧ ∃ e, o' = .tok 0 e) ∨ ∃ cs cs', LLe h' cs cs' ∧ ((o = .box cs ∧ o' = .box cs') ∨ ∃ v e sz, o = .grow v cs e sz ∧ o' = .grow v cs' e sz)
theorem OLe.grow {o o' : PO} (h : OLe h' o o') : growInfo o' = growInfo o := by
  rcases h with rfl | ⟨rfl, _, rfl⟩ | ⟨_, _, _, ⟨rfl, rfl⟩ | ⟨_, _, _, rfl, rfl⟩⟩ <;> rfl
theorem OLe.map {o o' : PO} (h : OLe h' o o') : mapInfo o' = mapInfo o := by
  rcases h with rfl | ⟨rfl, _, rfl⟩ | ⟨_, _, _, ⟨rfl, rfl⟩ | ⟨_, _, _, rfl, rfl⟩⟩ <;> rfl

theorem under_rep {m : Nat} (hh : ∀ id, id < m → OLe h' (h id) (h' id)) {p : PV} {u : Value} (hu : p.under m = true) (hr : RepP F φ h p u) : RepP F φ h' p u := by
  have hbox : ∀ id, id < m → isBox h id → isBox h' id := by
    intro id hid hb
    rcases hh id hid with e | ⟨e, _⟩ | ⟨cs, cs', _, ⟨_, e⟩ | ⟨_, _, _, e, _⟩⟩
    · unfold isBox; rw [e]; exact hb
    · rcases hb with ⟨_, hb⟩ | ⟨_, hb⟩ <;> (rw [e] at hb; cases hb)
    · exact .inl ⟨cs', e⟩
    · rcases hb with ⟨_, hb⟩ | ⟨_, hb⟩ <;> (rw [e] at hb; cases hb)
  induction p generalizing u with
  | t x => exact hr
  | ptr id off => exact ⟨hbox id (by simpa [PV.under] using hu) hr.1, hr.2⟩
  | own cs n id =>
    obtain ⟨h0, h1, m', e, h2, h3⟩ := hr
    refine ⟨h0, h1, m', e, ?_, h3⟩
    rcases hh id (by simpa [PV.under] using hu) with e1 | ⟨e1, _⟩ | ⟨_, _, _, ⟨e1, _⟩ | ⟨_, _, _, e1, _⟩⟩
    · rw [e1]; exact h2
    · rw [h2] at e1; cases e1
    · rw [h2] at e1; cases e1
    · rw [h2] at e1; cases e1
  | fnc f ids =>
    have hi : ∀ id ∈ ids, id < m := by simpa [PV.under, List.all_eq_true] using hu
    exact ⟨fun id hid => hbox id (hi id hid) (hr.1 id hid), hr.2⟩
  | yld l => exact hr
  | cond b p ih => exact ⟨fun hb => ih (by simpa [PV.under] using hu) (hr.1 hb), hr.2⟩
  | gsl id ver sz o n full =>
    obtain ⟨v, e, cap, a, h1, h2⟩ := hr
    exact ⟨v, e, cap, a, (hh id (by simpa [PV.under] using hu)).grow.trans h1, h2⟩
  | gptr id ver off =>
    obtain ⟨v, e, sz, a, h1, h2⟩ := hr
    exact ⟨v, e, sz, a, (hh id (by simpa [PV.under] using hu)).grow.trans h1, h2⟩
  | mapr id =>
    obtain ⟨t, h1, h2⟩ := hr
    exact ⟨t, (hh id (by simpa [PV.under] using hu)).map.trans h1, h2⟩
  | nil => exact hr
  | cons b p q ih1 ih2 =>
    simp only [PV.under, Bool.and_eq_true] at hu
    obtain ⟨v, us, h1, h2, h3, h4⟩ := hr
    exact ⟨v, us, h1, ih1 hu.1 h2, ih2 hu.2 h3, h4⟩
  | junk => trivial
theorem PLe.rep {m : Nat} (hh : ∀ id, id < m → OLe h' (h id) (h' id)) {p p' : PV} {u : Value} (hp : PLe h' p p') (hu : p'.under m = true) (hr : RepP F φ h p u) : RepP F φ h' p' u := by
  rcases hp with rfl | rfl | ⟨x, hx, rfl⟩ | ⟨hx, id, n, e, rfl, hid⟩
  · trivial
  · exact under_rep hh hu hr
  · exact PV.toT_rep hx hr
  · have := PV.toT_rep hx hr
    cases this
    exact ⟨fun _ => ⟨rfl, rfl⟩, fun h0 => (by omega), n, e, hid, Nat.zero_le _, fun _ h0 => (by omega)⟩

/-- WHAT MAY BE FORGOTTEN: values; objects from m on; that a row is one's own. -/
theorem weak_of {k m : Nat} (hkm : k ≤ m) {s s' : PS} (hl : s'.tmps.length = s.tmps.length)
    (ht : ∀ (i : Nat) (p p' : PV), s.tmps[i]? = some p → s'.tmps[i]? = some p' → PLe s'.heap p p' ∧ p'.under m = true)
    (hh : ∀ id, id < m → OLe s'.heap (s.heap id) (s'.heap id) ∧ (s'.heap id).under m = true) (hr : ∀ id, m ≤ id → s'.heap id = .res) (hc : cntOf s'.heap = cntOf s.heap) : Weak P k s s' := by
  rintro C J a w hst hk ⟨F, φ, G, H, hrr, hid, hm, hJ⟩
  have hO : ∀ id, id < m → OLe s'.heap (s.heap id) (s'.heap id) := fun id hid => (hh id hid).1
  have hlive : ∀ id, (s'.heap id).live = true → id < m ∧ (s.heap id).live = true := by
    intro id li
    rcases Nat.lt_or_ge id m with h1 | h1
    · refine ⟨h1, ?_⟩
      rcases hO id h1 with e | ⟨_, _, e⟩ | ⟨cs, cs', _, ⟨e1, e2⟩ | ⟨v, t, sz, e1, e2⟩⟩
      · rw [← e]; exact li
      · rw [e] at li; simp [PO.live] at li
      · rw [e1]; rfl
      · rw [e1]; rfl
    · rw [hr id h1] at li; cases li
  have hP : ∀ p p' u, PLe s'.heap p p' → p'.under m = true → RepP F φ s.heap p u → RepP F φ s'.heap p' u := fun p p' u h1 h2 h3 => h1.rep hO h2 h3
  have hown : ∀ b, own φ s'.heap b → own φ s.heap b := fun b ⟨id, li, e⟩ => ⟨id, (hlive id li).2, e⟩
  refine ⟨F, φ, G, ⟨H.agree, H.more, H.news, fun id => ?_, fun i j li lj e => H.inj i j (hlive i li).2 (hlive j lj).2 e, fun i li => H.high i (hlive i li).2, H.bel, fun id => ?_⟩, ⟨by rw [hl]; exact hrr.1, fun i p' u hp' hu => ?_⟩,
    fun b hb => ⟨(hid b hb).1, fun ho => (hid b hb).2.1 (hown b ho), (hid b hb).2.2⟩, ⟨hm.1, fun d hd => ?_⟩, by rw [hc]; exact hJ⟩
  · rcases Nat.lt_or_ge id m with h1 | h1
    · have hob := H.objs id
      obtain ⟨ho, hu⟩ := hh id h1
      rcases ho with e | ⟨_, t, e⟩ | ⟨cs, cs', ⟨e3, e4⟩, ⟨e1, e2⟩ | ⟨v, t, sz, e1, e2⟩⟩
      rotate_left
      · rw [e]; intro h0; omega
      rotate_left
      rotate_left
      · rw [← e] at hob
        cases hx : s'.heap id with
        | box cells =>
          rw [hx] at hob hu
          obtain ⟨us, ty, a1, a2, a3, a4⟩ := hob
          refine ⟨us, ty, a1, a2, fun i c u hc hu' => ⟨hP c c u (.inr (.inl rfl)) ?_ (a3 i c u hc hu').1, (a3 i c u hc hu').2⟩, a4⟩
          simp only [PO.under, List.all_eq_true] at hu
          exact hu c (List.mem_of_getElem? hc)
        | ro c => rw [hx] at hob; exact hob
        | grow v cells e sz =>
          rw [hx] at hob hu
          obtain ⟨us, a1, a2, a3, a4, a5, a6⟩ := hob
          refine ⟨us, a1, a2, a3, a4, fun i c u hc hu' => ⟨hP c c u (.inr (.inl rfl)) ?_ (a5 i c u hc hu').1, (a5 i c u hc hu').2⟩, a6⟩
          simp only [PO.under, List.all_eq_true] at hu
          exact hu c (List.mem_of_getElem? hc)
        | gro v c e sz => rw [hx] at hob; exact hob
        | mp t m => rw [hx] at hob; exact hob
        | tok n e => rw [hx] at hob; exact hob
        | cnt => trivial
        | res => trivial
      · rw [e1] at hob
        rw [e2] at hu ⊢
        obtain ⟨us, ty, a1, a2, a3, a4⟩ := hob
        refine ⟨us, ty, a1, by omega, fun i c u hc hu' => ?_, a4⟩
        have hi : i < cs.length := by have := (List.getElem?_eq_some_iff.1 hc).1; omega
        have hci : cs[i]? = some cs[i] := List.getElem?_eq_getElem hi
        simp only [PO.under, List.all_eq_true] at hu
        exact ⟨hP _ c u (e4 i _ c hci hc) (hu c (List.mem_of_getElem? hc)) (a3 i _ u hci hu').1, (a3 i _ u hci hu').2⟩
      · rw [e1] at hob
        rw [e2] at hu ⊢
        obtain ⟨us, a1, a2, a3, a4, a5, a6⟩ := hob
        refine ⟨us, a1, a2, by omega, a4, fun i c u hc hu' => ?_, a6⟩
        have hi : i < cs.length := by have := (List.getElem?_eq_some_iff.1 hc).1; omega
        have hci : cs[i]? = some cs[i] := List.getElem?_eq_getElem hi
        simp only [PO.under, List.all_eq_true] at hu
        exact ⟨hP _ c u (e4 i _ c hci hc) (hu c (List.mem_of_getElem? hc)) (a5 i _ u hci hu').1, (a5 i _ u hci hu').2⟩
    · rw [hr id h1]; trivial
  · rcases Nat.lt_or_ge id m with h1 | h1
    · have hs := H.step id
      have hg := (hO id h1).grow
      have hmm := (hO id h1).map
      rcases hO id h1 with e | ⟨e1, _⟩ | ⟨cs, cs', _, ⟨e1, e2⟩ | ⟨v, t, sz, e1, e2⟩⟩
      rotate_left
      · cases hx : C.h0 id with
        | box c => rw [hx] at hs; rcases hs.1 with ⟨_, h2⟩ | ⟨_, h2⟩ <;> (rw [e1] at h2; cases h2)
        | ro c => rw [hx] at hs; rw [e1] at hs; cases hs.1
        | grow v c e' sz => rw [hx] at hs; rw [e1] at hs; obtain ⟨_, h2, _⟩ := hs; cases h2
        | gro v c e' sz => rw [hx] at hs; rw [e1] at hs; cases hs.1
        | mp t m => rw [hx] at hs; rw [e1] at hs; cases hs.1
        | tok n t => rw [hx] at hs; rw [e1] at hs; obtain ⟨_, h2, _⟩ := hs; cases h2
        | cnt n => rw [hx] at hs; rw [e1] at hs; obtain ⟨_, h2⟩ := hs; cases h2
        | res => trivial
      rotate_left
      rotate_left
      · cases hx : C.h0 id with
        | box c => rw [hx] at hs; unfold isBox at hs ⊢; rw [e]; exact hs
        | ro c => rw [hx] at hs; rw [e]; exact hs
        | grow v c e' sz => rw [hx] at hs; rw [e]; exact hs
        | gro v c e' sz => rw [hx] at hs; rw [e]; exact hs
        | mp t m => rw [hx] at hs; rw [e]; exact hs
        | tok n t => rw [hx] at hs; rw [e]; exact hs
        | cnt n => rw [hx] at hs; rw [e]; exact hs
        | res => trivial
      · cases hx : C.h0 id with
        | box c => rw [hx] at hs; exact ⟨.inl ⟨cs', e2⟩, hs.2⟩
        | ro c => rw [hx] at hs; rw [e1] at hs; cases hs.1
        | grow v c e' sz => rw [hx] at hs; rw [e1] at hs; obtain ⟨_, h2, _⟩ := hs; cases h2
        | gro v c e' sz => rw [hx] at hs; rw [e1] at hs; cases hs.1
        | mp t m => rw [hx] at hs; rw [e1] at hs; cases hs.1
        | tok n t => rw [hx] at hs; rw [e1] at hs; obtain ⟨_, h2, _⟩ := hs; cases h2
        | cnt n => rw [hx] at hs; rw [e1] at hs; obtain ⟨_, h2⟩ := hs; cases h2
        | res => trivial
      · cases hx : C.h0 id with
        | box c => rw [hx] at hs; rw [e1] at hs; rcases hs.1 with ⟨_, h2⟩ | ⟨_, h2⟩ <;> (rw [e1] at h2; cases h2)
        | ro c => rw [hx] at hs; rw [e1] at hs; cases hs.1
        | grow v c e' sz => rw [hx] at hs; obtain ⟨v', b1, b2⟩ := hs; exact ⟨v', hg.trans b1, b2⟩
        | gro v c e' sz => rw [hx] at hs; rw [e1] at hs; cases hs.1
        | mp t m => rw [hx] at hs; rw [e1] at hs; cases hs.1
        | tok n t => rw [hx] at hs; rw [e1] at hs; obtain ⟨_, h2, _⟩ := hs; cases h2
        | cnt n => rw [hx] at hs; rw [e1] at hs; obtain ⟨_, h2⟩ := hs; cases h2
        | res => trivial
    · rw [hk id (Nat.le_trans hkm h1)]; trivial
  · have hi : i < s.tmps.length := by have := (List.getElem?_eq_some_iff.1 hp').1; omega
    obtain ⟨h1, h2⟩ := ht i s.tmps[i] p' (List.getElem?_eq_getElem hi) hp'
    exact hP _ p' u h1 h2 (hrr.2 i _ u (List.getElem?_eq_getElem hi) hu)
  · obtain ⟨D, e, a1, a2, a3, a4⟩ := hm.2 d hd
    exact ⟨D, e, a1, a2, fun ho => a3 (hown D ho), a4⟩

/-- Rows may be frozen. -/
theorem weak_freeze {k : Nat} {s : PS} {ids : List Nat} {W : Wr} (hw : freezeW s.heap ids = some W) (hc : cntOf (wr s.heap W) = cntOf s.heap) : Weak P k s ⟨s.tmps, wr s.heap W⟩ := by
  rintro C J a w hst hk ⟨F, φ, G, H, hrr, hid, hm, hJ⟩
  obtain ⟨F1, H1, l1, s1⟩ := RH.freezeRows ids H.here hw
  obtain ⟨t1, t2, t3⟩ := surr hst H hid hm hJ H1
  exact ⟨F1, φ, G, H.trans H1, hrr.step l1 s1, t1, t2, by show J (cntOf (wr s.heap W)) F1 G w; rw [hc]; exact t3⟩

theorem pops_mono {Y : YS} {ops : Array Oper} : ∀ (l : List Nat) {σ : PS} {fs : List Foot} {K K' : PS → List Foot → Prop}, (∀ s f, K s f → K' s f) → pops P Y ops l σ fs K → pops P Y ops l σ fs K'
  | [], _, _, _, _, hk, h => hk _ _ h
  | i :: l, σ, fs, K, K', hk, h => by obtain ⟨s, f, h1, h2⟩ := h; exact ⟨s, f, h1, pops_mono l hk h2⟩

theorem pwp_mono : ∀ (c : Code) {X : PX} {Q Q' : Exit → PS → Prop} (_ : ∀ e s, Q e s → Q' e s) (σ : PS), pwp P X c Q σ → pwp P X c Q' σ
  | .skip, _, _, _, hq, σ, h => hq _ _ h
  | .label _, _, _, _, hq, σ, h => hq _ _ h
  | .region _ ops draw, X, Q, Q', hq, σ, h => pops_mono _ (fun s f hs => ⟨hs.1, hq _ _ hs.2⟩) h
  | .seq a b, X, Q, Q', hq, σ, h => pwp_mono a (fun e s hs => by
      cases e with
      | normal => exact pwp_mono b hq s hs
      | _ => exact hq _ _ hs) σ h
  | .cond c a b, X, Q, Q', hq, σ, h => by
    obtain ⟨t, h1, h2, h3⟩ := h
    exact ⟨t, h1, fun e => pwp_mono a hq σ (h2 e), fun e => pwp_mono b hq σ (h3 e)⟩
  | .block id c, X, Q, Q', hq, σ, h => pwp_mono c (fun e s hs => by
      cases e with
      | exit id' =>
        simp only [blockQ] at hs ⊢
        split
        · rename_i hi; rw [if_pos hi] at hs; exact hq _ _ hs
        · rename_i hi; rw [if_neg hi] at hs; exact hq _ _ hs
      | _ => exact hq _ _ hs) σ h
  | .loop c, X, Q, Q', hq, σ, h => by
    obtain ⟨A, S, μ, x0, h0, h1⟩ := h
    exact ⟨A, S, μ, x0, h0, fun x => pwp_mono c (fun e s hs => by
      cases e with
      | normal => exact hs
      | _ => exact hq _ _ hs) (S x) (h1 x)⟩
  | .exit id, _, _, _, hq, σ, h => hq _ _ h
  | .ret, _, _, _, hq, σ, h => hq _ _ h
  | .rangeFunc g ps assign body, X, Q, Q', hq, σ, h => by
    obtain ⟨hin, f, pre, caps, xs, T, S, k, m, stop, e, h1, h2, h3, h4, h5, h6, h7, h8, h9, h10, h11⟩ := h
    exact ⟨hin, f, pre, caps, xs, T, S, k, m, stop, e, h1, h2, h3, h4, h5, h6, h7, h8, h9, h10, hq _ _ h11⟩
  | .scope c, X, Q, Q', hq, σ, h => pwp_mono c (fun e s hs => by
      cases e with
      | goto l => exact hs
      | _ => exact hq _ _ hs) σ h
  | .goto .., _, _, _, _, _, h => h.elim
  | .refuse .., _, _, _, _, _, h => h.elim

end Go.Pm
