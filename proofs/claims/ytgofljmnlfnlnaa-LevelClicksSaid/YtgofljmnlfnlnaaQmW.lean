/- The pure machine, part W: contracts, reckoned; the rules by which a walk is reckoned. -/
import Derived.Test.YtgofljmnlfnlnaaQmU
namespace Go.Pm
open Go Go.RowKit

variable {P : Program}

/-- What a function hands back. -/
def resC1 (P : Program) (s : CS) : ResultVar → Option PV
  | .tmp t => some (getA s.env t)
  | .cell a t => match getA s.env a with
    | .ptr id off => match getL s.heap id with
      | .box cells => loadB P t cells off
      | .ro cells => (partT P t (cells.drop off) 0).map .t
      | _ => none
    | _ => none
def resC (P : Program) (rs : List ResultVar) (s : CS) : Option PV :=
  match rs.map (fun v => (resC1 P s v).map (thawP (getL s.heap))) with
  | [some p] => some (normA p)
  | l => (allO l).map (aggP true)
theorem resC_eq {n : Nat} {rs : List ResultVar} {s : CS} (hk : keysOk n s.env = true) : resO P rs (toPS n s) = resC P rs s := by
  have e : ∀ t, (toPS n s).tmps.getD t .junk = getA s.env t := fun t => toPS_eval hk (.tmp t)
  have e1 : resO1 P (toPS n s) = resC1 P s := by
    funext v
    cases v with
    | tmp t => simp only [resO1, resC1, e]
    | cell a t => simp only [resO1, resC1, e]; rfl
  unfold resO resC
  rw [e1]
  rfl

/-! ### Forgetting, reckoned -/
def isTok : PO → Prop
  | .tok _ _ => True
  | _ => False
/-- What is known of a value; l is the heap as it is known. -/
def cellW (l : List PO) (c c' : PV) : Prop := match c' with
  | .junk => True
  | .t x => c.toT = some x
  | .own cs n id => match c with
    | .t .nilSl => cs = [] ∧ n = 0 ∧ isTok (getL l id)
    | p => p = .own cs n id
  | p => c = p
def cellsW (l : List PO) : List PV → List PV → Prop
  | [], [] => True
  | c :: cs, c' :: cs' => cellW l c c' ∧ cellsW l cs cs'
  | _, _ => False
def objW (l : List PO) : PO → PO → Prop
  | .box cs, .box cs' => cellsW l cs cs'
  | .grow v cs e sz, .grow v' cs' e' sz' => v = v' ∧ e = e' ∧ sz = sz' ∧ cellsW l cs cs'
  | .res, .tok n _ => n = 0
  | o, o' => o = o'
/-- An object that is known where there is none. -/
def noneW : PO → Prop
  | .tok n _ => n = 0
  | .res => True
  | _ => False
/-- The heap l, of which l' is known (and no more). -/
def heapW (hp : List PO) : List PO → List PO → Prop
  | _, [] => True
  | o :: l, o' :: l' => objW hp o o' ∧ heapW hp l l'
  | [], o' :: l' => noneW o' ∧ heapW hp [] l'
def cntL : List PO → Nat
  | .cnt n :: _ => n
  | _ => 0
def envW (hp : List PO) (e : List (Nat × PV)) : List (Nat × PV) → Prop
  | [] => True
  | (d, q) :: l => (cellW hp (getA e d) q ∧ q.under hp.length = true) ∧ envW hp e l
/-- What is reckoned of a state that is known less well. -/
def weakW (k : Nat) (s s' : CS) : Prop := envW s'.heap s.env s'.env ∧ heapW s'.heap s.heap s'.heap ∧ s'.heap.all (PO.under s'.heap.length) = true ∧ k ≤ s'.heap.length ∧ cntL s'.heap = cntL s.heap

theorem isTok_get {l : List PO} {id : Nat} (h : isTok (getL l id)) : ∃ m e, getL l id = .tok m e := by
  cases e : getL l id <;> (rw [e] at h; first | exact h.elim | exact ⟨_, _, rfl⟩)
theorem cellW_le {l : List PO} {c c' : PV} (h : cellW l c c') : PLe (getL l) c c' := by
  unfold cellW at h
  split at h
  · exact .inl rfl
  · exact .inr (.inr (.inl ⟨_, h, rfl⟩))
  · split at h
    · obtain ⟨rfl, rfl, h⟩ := h
      obtain ⟨m, e, he⟩ := isTok_get h
      exact .inr (.inr (.inr ⟨rfl, _, m, e, rfl, he⟩))
    · exact .inr (.inl h.symm)
  · exact .inr (.inl h.symm)
theorem cellsW_le {l : List PO} : ∀ {cs cs' : List PV}, cellsW l cs cs' → LLe (getL l) cs cs'
  | [], [], _ => ⟨rfl, fun i c c' h => by simp at h⟩
  | c :: cs, c' :: cs', h => by
    obtain ⟨h1, h2⟩ := cellsW_le h.2
    refine ⟨by simp [h1], fun i a a' ha ha' => ?_⟩
    cases i with
    | zero => simp at ha ha'; subst ha; subst ha'; exact cellW_le h.1
    | succ i => simp at ha ha'; exact h2 i a a' ha ha'
  | [], _ :: _, h => h.elim
  | _ :: _, [], h => h.elim
theorem objW_le {l : List PO} {o o' : PO} (h : objW l o o') : OLe (getL l) o o' := by
  unfold objW at h
  split at h
  · exact .inr (.inr ⟨_, _, cellsW_le h, .inl ⟨rfl, rfl⟩⟩)
  · obtain ⟨rfl, rfl, rfl, h⟩ := h
    exact .inr (.inr ⟨_, _, cellsW_le h, .inr ⟨_, _, _, rfl, rfl⟩⟩)
  · subst h; exact .inr (.inl ⟨rfl, _, rfl⟩)
  · exact .inl h.symm
theorem noneW_le {l : List PO} {o' : PO} (h : noneW o') : OLe (getL l) .res o' := by
  cases o' <;> first | exact h.elim | exact .inl rfl | (cases h; exact .inr (.inl ⟨rfl, _, rfl⟩))
theorem heapW_le {hp : List PO} : ∀ {l l' : List PO}, heapW hp l l' → ∀ id, id < l'.length → OLe (getL hp) (getL l id) (getL l' id)
  | l, [], _, id, hid => by simp at hid
  | [], o' :: l', h, id, hid => by
    rw [getL_out (l := []) (Nat.zero_le _)]
    cases id with
    | zero => rw [getL_zero]; exact noneW_le h.1
    | succ id =>
      rw [getL_cons]
      have := heapW_le h.2 id (by simpa using hid)
      rwa [getL_out (l := []) (Nat.zero_le _)] at this
  | o :: l, o' :: l', h, id, hid => by
    cases id with
    | zero => rw [getL_zero, getL_zero]; exact objW_le h.1
    | succ id => rw [getL_cons, getL_cons]; exact heapW_le h.2 id (by simpa using hid)
theorem cntL_eq (l : List PO) : cntOf (getL l) = cntL l := by
  cases l with
  | nil => rfl
  | cons o l => unfold cntOf; rw [getL_zero]; cases o <;> rfl
theorem envW_le {hp : List PO} {e : List (Nat × PV)} : ∀ {l : List (Nat × PV)}, envW hp e l → ∀ t, PLe (getL hp) (getA e t) (getA l t) ∧ (getA l t).under hp.length = true
  | [], _, t => ⟨.inl rfl, rfl⟩
  | (d, q) :: l, h, t => by
    obtain ⟨⟨h1, h2⟩, h3⟩ := h
    have e0 : getA ((d, q) :: l) t = if d = t then q else getA l t := rfl
    rw [e0]
    split
    · rename_i e; subst e; exact ⟨cellW_le h1, h2⟩
    · exact envW_le h3 t
theorem weakW_weak {k n : Nat} {s s' : CS} (h : weakW k s s') : Weak P k (toPS n s) (toPS n s') := by
  obtain ⟨h1, h2, h3, h4, h5⟩ := h
  refine weak_of (m := s'.heap.length) h4 (by simp [toPS]) (fun i p p' hp hp' => ?_) (fun id hid => ⟨heapW_le h2 id hid, ?_⟩) (fun id hid => getL_out hid) (by show cntOf (getL s'.heap) = cntOf (getL s.heap); rw [cntL_eq, cntL_eq, h5])
  · simp only [toPS, List.getElem?_map, Option.map_eq_some_iff, range_get] at hp hp'
    obtain ⟨j, hj, rfl⟩ := hp
    obtain ⟨j', hj', rfl⟩ := hp'
    rw [hj] at hj'; cases hj'
    split at hj
    · cases hj; exact envW_le h1 i
    · cases hj
  · rw [List.all_eq_true] at h3
    have : getL s'.heap id ∈ s'.heap := by
      unfold getL; rw [List.getD_eq_getElem?_getD, List.getElem?_eq_getElem hid]; exact List.getElem_mem hid
    exact h3 _ this

end Go.Pm
