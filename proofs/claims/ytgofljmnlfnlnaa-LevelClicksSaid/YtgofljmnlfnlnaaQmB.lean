/- The pure machine, part B: what a new block, a store, a growing row do to the relation. -/
import Derived.Test.YtgofljmnlfnlnaaQmA
namespace Go.Pm
open Go Go.RowKit

theorem frozen_none {w : World} {b : Nat} {cs : Array Value} {ty : TypeId} (h : w.heap[b]? = some (.cells cs ty (0, 0))) (i : Nat) : w.frozen? ⟨b, i, none⟩ = false := by
  simp [World.frozen?, h]
theorem cell_at {w : World} {b : Nat} {us : List Value} {ty : TypeId} {f : Nat × Nat} (h : w.heap[b]? = some (.cells us.toArray ty f)) (i : Nat) : w.cell? ⟨b, i, none⟩ = us[i]? := by
  simp [World.cell?, h]
theorem add_plain (b o n : Nat) : (⟨b, o, none⟩ : Addr).add n = ⟨b, o + n, none⟩ := by unfold Addr.add; split <;> simp_all
theorem add_add (a : Addr) (i j : Nat) : (a.add i).add j = a.add (i + j) := by
  unfold Addr.add
  by_cases hi : i = 0 <;> by_cases hj : j = 0 <;> simp [hi, hj, Nat.add_assoc]
theorem add_zero (a : Addr) : a.add 0 = a := by simp [Addr.add]
theorem heap_alloc_old {w : World} {o : Obj} {b : Nat} (h : b < w.heap.size) : (w.alloc o).heap[b]? = w.heap[b]? := Below.heap_alloc w o b h
theorem lt_of_block {w : World} {b : Nat} {o : Obj} (h : w.heap[b]? = some o) : b < w.heap.size := by
  rcases Nat.lt_or_ge b w.heap.size with h' | h'
  · exact h'
  · simp [Array.getElem?_eq_none h'] at h
theorem cell_lt {w : World} {a : Addr} {u : Value} (h : w.cell? a = some u) : a.block < w.heap.size := World.block_lt_of_cell? w a h

variable {P : Program} {C : Cx} {F F' : Fz} {φ φ' φ'' : Nat → Nat × Nat} {h h' h'' : Hp} {w w' : World} {v sz : Nat}

theorem Bel.refl (E : Nat → Prop) (w : World) : Bel E w w := ⟨rfl, rfl, rfl, Nat.le_refl _, fun _ _ _ => rfl⟩
theorem Bel.below {E : Nat → Prop} {w0 : World} (b : Bel E w0 w) (hb : Below w.heap.size w w') : Bel E w0 w' :=
  ⟨hb.os.trans b.os, hb.tape.trans b.tape, hb.output.trans b.output, Nat.le_trans b.size hb.size, fun k hk he => (hb.block k (Nat.lt_of_lt_of_le hk b.size)).trans (b.block k hk he)⟩

theorem RepO.step {id : Nat} {o : PO} (hr : RepO P F φ h w id o) (hφ : o.live = true → φ' id = φ id) (hs : HStep φ φ' h h') (hF : F.le F')
    (hn : o.live = true → ∀ i, F' ⟨(φ id).1, i, none⟩ = F ⟨(φ id).1, i, none⟩)
    (hw : o.live = true → w'.heap[(φ id).1]? = w.heap[(φ id).1]?) : RepO P F' φ' h' w' id o := by
  cases o with
  | box cells =>
    obtain ⟨us, ty, h1, h2, h3, h4⟩ := hr
    have e := hφ rfl
    exact ⟨us, ty, by rw [e, hw rfl]; exact h1, h2, fun i c u a b => ⟨((h3 i c u a b).1.mono hF).step hs, (h3 i c u a b).2⟩, fun i => by rw [e, hn rfl]; exact h4 i⟩
  | ro cells =>
    obtain ⟨us, ty, h1, h2, h3, h4⟩ := hr
    have e := hφ rfl
    exact ⟨us, ty, by rw [e, hw rfl]; exact h1, h2.mono hF, h3, fun i u hu => by rw [e]; exact hF _ _ (h4 i u hu)⟩
  | grow v cells e sz =>
    obtain ⟨us, h1, h2, h3, h4, h5, h6⟩ := hr
    have e' := hφ rfl
    exact ⟨us, by rw [e', hw rfl]; exact h1, by rw [e']; exact h2, h3, h4, fun i c u a b => ⟨((h5 i c u a b).1.mono hF).step hs, (h5 i c u a b).2⟩, fun i => by rw [e', hn rfl]; exact h6 i⟩
  | gro v cells e sz =>
    obtain ⟨us, h1, h2, h3, h4, h5⟩ := hr
    have e' := hφ rfl
    exact ⟨us, by rw [e', hw rfl]; exact h1, by rw [e']; exact h2, h3, h4, fun i c u a b => ⟨(h5 i c u a b).1.mono hF, (h5 i c u a b).2.1, by rw [e']; exact hF _ _ (h5 i c u a b).2.2⟩⟩
  | mp t m =>
    obtain ⟨es, clock, ents, h1, h2, h3, h4⟩ := hr
    have e' := hφ rfl
    exact ⟨es, clock, ents, by rw [e', hw rfl]; exact h1, h2, h3, fun i p x a b => ⟨(h4 i p x a b).1, (h4 i p x a b).2.1.mono hF, (h4 i p x a b).2.2.mono hF⟩⟩
  | tok n e =>
    intro h0
    obtain ⟨us, h1, h2, h3, h4⟩ := hr h0
    have hl : (PO.tok n e).live = true := by simpa [PO.live] using h0
    have e' := hφ hl
    exact ⟨us, by rw [e', hw hl]; exact h1, by rw [e']; exact h2, by rw [e']; exact h3, fun i hi => by rw [e', hn hl]; exact h4 i hi⟩
  | cnt => trivial
  | res => trivial

theorem RH.blk (H : RH P C F φ h w) {id : Nat} (hl : (h id).live = true) : (φ id).1 < w.heap.size := by
  have := H.objs id
  cases ho : h id with
  | box cells => rw [ho] at this; obtain ⟨us, ty, h1, _⟩ := this; exact lt_of_block h1
  | ro cells => rw [ho] at this; obtain ⟨us, ty, h1, _⟩ := this; exact lt_of_block h1
  | grow v c e sz => rw [ho] at this; obtain ⟨us, h1, _⟩ := this; exact lt_of_block h1
  | gro v c e sz => rw [ho] at this; obtain ⟨us, h1, _⟩ := this; exact lt_of_block h1
  | mp t m => rw [ho] at this; obtain ⟨es, clock, ents, h1, _⟩ := this; exact lt_of_block h1
  | tok n e => rw [ho] at this hl; obtain ⟨us, h1, _⟩ := this (by simpa [PO.live] using hl); exact lt_of_block h1
  | cnt => rw [ho] at hl; cases hl
  | res => rw [ho] at hl; cases hl

/-- Here and now. -/
theorem RH.here (H : RH P C F φ h w) : RH P (loc w F φ h) F φ h w :=
  ⟨H.agree, Fz.le_refl _, fun a u h1 h2 => (by rw [show F a = none from h2] at h1; cases h1), H.objs, H.inj, fun i li => .inr ⟨i, li, rfl⟩, Bel.refl _ _, HStep.refl _ _⟩

/-- WHAT HAPPENS HERE AND NOW HAPPENS IN WHATEVER SURROUNDINGS. -/
theorem RH.trans (H : RH P C F φ h w) (H' : RH P (loc w F φ h) F' φ' h' w') : RH P C F' φ' h' w' := by
  have hown : ∀ b, own φ h b → C.w0.heap.size ≤ b ∨ C.E b := fun b ⟨id, hl, e⟩ => e ▸ H.high id hl
  have hsz := H.bel.size
  refine ⟨H'.agree, Fz.le_trans H.more H'.more, fun a u h1 h2 => ?_, H'.objs, H'.inj, fun i li => ?_, ⟨H'.bel.os.trans H.bel.os, H'.bel.tape.trans H.bel.tape, H'.bel.output.trans H.bel.output, Nat.le_trans hsz H'.bel.size, fun k hk he => ?_⟩, H.step.trans H'.step⟩
  · cases hFa : F a with
    | some v => exact H.news a v hFa h2
    | none =>
      rcases H'.news a u h1 hFa with h3 | h3
      · exact .inl (Nat.le_trans hsz h3)
      · exact hown _ h3
  · rcases H'.high i li with h3 | h3
    · exact .inl (Nat.le_trans hsz h3)
    · exact hown _ h3
  · rw [H'.bel.block k (Nat.lt_of_lt_of_le hk hsz) (fun ho => by
      rcases hown k ho with h3 | h3
      · omega
      · exact he h3)]
    exact H.bel.block k hk he

/-- Memory grows, nothing that was there is written (a call; a draw). -/
theorem RH.grow (H : RH P C F φ h w) (hF : F.le F') (hag : ∀ a u, F' a = some u → w'.cell? a = some u)
    (hnew : ∀ a u, F' a = some u → F a = none → w.heap.size ≤ a.block) (hb : Below w.heap.size w w') : RH P C F' φ h w' := by
  have hsz := H.bel.size
  refine ⟨hag, Fz.le_trans H.more hF, fun a u h1 h2 => ?_, fun id => ?_, H.inj, H.high, H.bel.below hb, H.step⟩
  · cases hFa : F a with
    | none => exact .inl (Nat.le_trans hsz (hnew a u h1 hFa))
    | some v => exact H.news a v hFa h2
  · refine (H.objs id).step (fun _ => rfl) (HStep.refl _ _) hF (fun hl i => ?_) (fun hl => hb.block _ (H.blk hl))
    cases hFa : F ⟨(φ id).1, i, none⟩ with
    | some v => exact hF _ _ hFa
    | none =>
      cases hFb : F' ⟨(φ id).1, i, none⟩ with
      | none => rfl
      | some v => have := hnew _ _ hFb hFa; have := H.blk hl; simp at *; omega

def upd (φ : Nat → Nat × Nat) (r : Nat) (x : Nat × Nat) : Nat → Nat × Nat := fun i => if i = r then x else φ i
theorem upd_same (r : Nat) (x : Nat × Nat) : upd φ r x r = x := by simp [upd]
theorem upd_other {r i : Nat} (x : Nat × Nat) (hi : i ≠ r) : upd φ r x i = φ i := by simp [upd, hi]

/-- One object another: what is asked of the object that it was. -/
theorem HStep.one {id : Nat} {o : PO} (x : Nat × Nat) (ho : match h id with
    | .box _ => ((∃ c, o = .box c) ∨ ∃ c, o = .ro c) ∧ x = φ id
    | .ro c => o = .ro c ∧ x = φ id
    | .grow v _ e sz => ∃ v', growInfo o = some (v', e, sz) ∧ v ≤ v' ∧ (v' = v → x = φ id)
    | .gro v c e sz => o = .gro v c e sz ∧ x = φ id
    | .mp t _ => mapInfo o = some t ∧ x = φ id
    | .tok n e => ∃ n', o = .tok n' e ∧ n ≤ n' ∧ (n' = n → x = φ id)
    | .cnt _ => ∃ n, o = .cnt n
    | .res => True) : HStep φ (upd φ id x) h (upo h id o) := by
  intro j
  by_cases hj : j = id
  · subst hj
    cases hh : h j with
    | box c => rw [hh] at ho; refine ⟨?_, by rw [upd_same]; exact ho.2⟩; unfold isBox; rw [upo_same]; exact ho.1
    | ro c => rw [hh] at ho; exact ⟨by rw [upo_same]; exact ho.1, by rw [upd_same]; exact ho.2⟩
    | grow v c e sz => rw [hh] at ho; obtain ⟨n', h1, h2, h3⟩ := ho; exact ⟨n', by rw [upo_same]; exact h1, h2, fun e => by rw [upd_same]; exact h3 e⟩
    | gro v c e sz => rw [hh] at ho; exact ⟨by rw [upo_same]; exact ho.1, by rw [upd_same]; exact ho.2⟩
    | mp t m => rw [hh] at ho; exact ⟨by rw [upo_same]; exact ho.1, by rw [upd_same]; exact ho.2⟩
    | tok n e => rw [hh] at ho; obtain ⟨n', h1, h2, h3⟩ := ho; exact ⟨n', by rw [upo_same]; exact h1, h2, fun e => by rw [upd_same]; exact h3 e⟩
    | cnt n => rw [hh] at ho; obtain ⟨n', h1⟩ := ho; exact ⟨n', by rw [upo_same]; exact h1⟩
    | res => trivial
  · have e := upo_other h o hj
    have e2 := upd_other (φ := φ) x hj
    cases hh : h j with
    | box c => exact ⟨.inl ⟨c, by rw [e]; exact hh⟩, e2⟩
    | ro c => exact ⟨by rw [e]; exact hh, e2⟩
    | grow v c t sz => exact ⟨v, by rw [e, hh]; rfl, Nat.le_refl _, fun _ => e2⟩
    | gro v c t sz => exact ⟨by rw [e]; exact hh, e2⟩
    | mp t m => exact ⟨by rw [e, hh]; rfl, e2⟩
    | tok n t => exact ⟨n, by rw [e]; exact hh, Nat.le_refl _, fun _ => e2⟩
    | cnt n => exact ⟨n, by rw [e]; exact hh⟩
    | res => trivial
theorem HStep.put {rid : Nat} (hres : h rid = .res) (x : Nat × Nat) (o : PO) : HStep φ (upd φ rid x) h (upo h rid o) := HStep.one x (by rw [hres]; trivial)
theorem upd_self (id : Nat) : upd φ id (φ id) = φ := by funext j; unfold upd; split <;> simp_all
theorem HStep.box {id : Nat} {c c' : List PV} (hid : h id = .box c) : HStep φ φ h (upo h id (.box c')) := by
  have := HStep.one (φ := φ) (h := h) (id := id) (o := .box c') (φ id) (by rw [hid]; exact ⟨.inl ⟨c', rfl⟩, rfl⟩)
  rwa [upd_self] at this

/-- An object changes; its block is its own or the newest one. -/
theorem RH.put (H : RH P C F φ h w) {rid : Nat} (o : PO) (x : Nat × Nat) (hs : HStep φ (upd φ rid x) h (upo h rid o))
    (hF : F.le F') (hag : ∀ a u, F' a = some u → w'.cell? a = some u)
    (hnew : ∀ a u, F' a = some u → F a = none → w.heap.size ≤ a.block ∨ (a.block = (φ rid).1 ∧ (h rid).live = true))
    (hb : Bel (fun b => b = (φ rid).1 ∧ (h rid).live = true) w w')
    (hx : w.heap.size ≤ x.1 ∨ (x.1 = (φ rid).1 ∧ (h rid).live = true)) (hobj : RepO P F' (upd φ rid x) (upo h rid o) w' rid o) :
    RH P C F' (upd φ rid x) (upo h rid o) w' := by
  have hsz := H.bel.size
  have hob : ∀ (i : Nat), i ≠ rid → (h i).live = true → (h rid).live = true → (φ i).1 ≠ (φ rid).1 := fun i hi li lr e => hi (H.inj i rid li lr e)
  refine ⟨hag, Fz.le_trans H.more hF, fun a u h1 h2 => ?_, fun id => ?_, fun i j li lj e => ?_, fun i li => ?_, ?_, H.step.trans hs⟩
  · cases hFa : F a with
    | some v => exact H.news a v hFa h2
    | none =>
      rcases hnew a u h1 hFa with h3 | ⟨h3, h4⟩
      · exact .inl (Nat.le_trans hsz h3)
      · rw [h3]; exact H.high rid h4
  · by_cases hi : id = rid
    · subst hi; rw [upo_same]; exact hobj
    · rw [upo_other h o hi]
      refine (H.objs id).step (fun _ => upd_other _ hi) hs hF (fun hl i => ?_) (fun hl => hb.block _ (H.blk hl) (fun hc => hob id hi hl hc.2 hc.1))
      cases hFa : F ⟨(φ id).1, i, none⟩ with
      | some v => exact hF _ _ hFa
      | none =>
        cases hFb : F' ⟨(φ id).1, i, none⟩ with
        | none => rfl
        | some v =>
          rcases hnew _ _ hFb hFa with h3 | ⟨h3, h4⟩
          · have := H.blk hl; simp at *; omega
          · exact absurd h3 (hob id hi hl h4)
  · by_cases hi : i = rid <;> by_cases hj : j = rid
    · rw [hi, hj]
    · subst hi
      rw [upo_other h o hj] at lj
      rw [upd_same, upd_other _ hj] at e
      rcases hx with hx | ⟨hx, lr⟩
      · have := H.blk lj; omega
      · exact absurd (by rw [← e, hx]) (hob j hj lj lr)
    · subst hj
      rw [upo_other h o hi] at li
      rw [upd_same, upd_other _ hi] at e
      rcases hx with hx | ⟨hx, lr⟩
      · have := H.blk li; omega
      · exact absurd (by rw [e, hx]) (hob i hi li lr)
    · rw [upo_other h o hi] at li; rw [upo_other h o hj] at lj
      rw [upd_other _ hi, upd_other _ hj] at e
      exact H.inj i j li lj e
  · by_cases hi : i = rid
    · subst hi; rw [upd_same]
      rcases hx with hx | ⟨hx, lr⟩
      · exact .inl (Nat.le_trans hsz hx)
      · rw [hx]; exact H.high i lr
    · rw [upo_other h o hi] at li; rw [upd_other _ hi]; exact H.high i li
  · refine ⟨hb.os.trans H.bel.os, hb.tape.trans H.bel.tape, hb.output.trans H.bel.output, Nat.le_trans hsz hb.size, fun k hk he => ?_⟩
    rw [hb.block k (Nat.lt_of_lt_of_le hk hsz) (fun hc => by
      rcases H.high rid hc.2 with h3 | h3
      · omega
      · rw [← hc.1] at h3; exact he h3)]
    exact H.bel.block k hk he

theorem HStep.grow {id v e sz : Nat} {c c' : List PV} (hid : h id = .grow v c e sz) : HStep φ φ h (upo h id (.grow v c' e sz)) := by
  have := HStep.one (φ := φ) (h := h) (id := id) (o := .grow v c' e sz) (φ id) (by rw [hid]; exact ⟨v, rfl, Nat.le_refl _, fun _ => rfl⟩)
  rwa [upd_self] at this
theorem HStep.map {id t : Nat} {m m' : TV → Option TV} (hid : h id = .mp t m) : HStep φ φ h (upo h id (.mp t m')) := by
  have := HStep.one (φ := φ) (h := h) (id := id) (o := .mp t m') (φ id) (by rw [hid]; exact ⟨rfl, rfl⟩)
  rwa [upd_self] at this

theorem Below.bel {E : Nat → Prop} (hb : Below w.heap.size w w') : Bel E w w' := ⟨hb.os, hb.tape, hb.output, hb.size, fun k hk _ => hb.block k hk⟩
theorem below_alloc (w : World) (o : Obj) : Below w.heap.size w (w.alloc o) := (Below.refl _ _).alloc (Nat.le_refl _) o
theorem alloc_new (w : World) (o : Obj) : (w.alloc o).heap[w.heap.size]? = some o := by show (w.heap.push o)[w.heap.size]? = _; simp
theorem F_none_new (H : RH P C F φ h w) (b i : Nat) (hb : w.heap.size ≤ b) : F ⟨b, i, none⟩ = none := by
  cases hF : F ⟨b, i, none⟩ with
  | none => rfl
  | some u => have := cell_lt (H.agree _ _ hF); simp at this; omega
theorem agree_alloc (H : RH P C F φ h w) (o : Obj) : ∀ a u, F a = some u → (w.alloc o).cell? a = some u := fun a u hu => by
  rw [World.cell?_alloc_lt w o a (cell_lt (H.agree _ _ hu))]; exact H.agree _ _ hu

/-- A new variable. -/
theorem RH.allocBox (H : RH P C F φ h w) {rid : Nat} (hres : h rid = .res) (us : List Value) (ty : TypeId) (cells : List PV) (hl : us.length = cells.length)
    (hr : ∀ (i : Nat) (c : PV) (u : Value), cells[i]? = some c → us[i]? = some u → RepP F φ h c u ∧ u.oneCell' = true) :
    RH P C F (upd φ rid (w.heap.size, 0)) (upo h rid (.box cells)) (w.alloc (.cells us.toArray ty)) ∧ RepP F (upd φ rid (w.heap.size, 0)) (upo h rid (.box cells)) (.ptr rid 0) (.pointer (some ⟨w.heap.size, 0, none⟩)) := by
  have hs := HStep.put (φ := φ) hres (w.heap.size, 0) (.box cells)
  refine ⟨H.put _ _ hs (Fz.le_refl _) (agree_alloc H _) (fun a u h1 h2 => by rw [h1] at h2; cases h2) (Below.bel (below_alloc _ _)) (.inl (Nat.le_refl _)) ⟨us, ty, ?_, hl, fun i c u a b => ⟨(hr i c u a b).1.step hs, (hr i c u a b).2⟩, fun i => ?_⟩, ⟨.inl ⟨cells, upo_same _ _ _⟩, ?_⟩⟩
  · rw [upd_same]; exact alloc_new _ _
  · rw [upd_same]; exact F_none_new H _ _ (Nat.le_refl _)
  · rw [upd_same]

/-- F with the cells of one block more. -/
def Fz.with (F : Fz) (b : Nat) (us : List Value) : Fz := fun a => if a.block = b ∧ a.spot = none then us[a.off]? else F a
theorem Fz.with_at (F : Fz) (b : Nat) (us : List Value) (i : Nat) : F.with b us ⟨b, i, none⟩ = us[i]? := by simp [Fz.with]
theorem Fz.le_with (H : RH P C F φ h w) (us : List Value) : F.le (F.with w.heap.size us) := fun a u hu => by
  have := cell_lt (H.agree _ _ hu)
  unfold Fz.with
  rw [if_neg (by omega)]; exact hu
theorem agree_with (H : RH P C F φ h w) (us vs : List Value) (ty : TypeId) : ∀ a u, F.with w.heap.size us a = some u → (w.alloc (.cells (us ++ vs).toArray ty)).cell? a = some u := by
  intro a u hu
  unfold Fz.with at hu
  split at hu
  · rename_i hc
    obtain ⟨b, o, s⟩ := a
    simp only at hc hu; obtain ⟨rfl, rfl⟩ := hc
    rw [cell_at (alloc_new _ _)]
    rw [List.getElem?_append_left (List.getElem?_eq_some_iff.1 hu).1]; exact hu
  · exact agree_alloc H _ a u hu
theorem news_with (us : List Value) : ∀ a u, F.with w.heap.size us a = some u → F a = none → w.heap.size ≤ a.block := by
  intro a u hu hn
  unfold Fz.with at hu
  split at hu
  · rename_i hc; omega
  · rw [hn] at hu; cases hu

/-- New cells that are never written again. -/
theorem RH.allocRow (H : RH P C F φ h w) (us : List Value) (ty : TypeId) : RH P C (F.with w.heap.size us) φ h (w.alloc (.cells us.toArray ty)) :=
  H.grow (Fz.le_with H us) (by simpa using agree_with H us [] ty) (news_with us) (below_alloc _ _)
theorem RH.drew (H : RH P C F φ h w) : RH P C F φ h w.drew :=
  H.grow (Fz.le_refl _) H.agree (fun a u h1 h2 => by rw [h1] at h2; cases h2) ((Below.refl _ _).drew)

theorem setRow_other (w : World) (g b : Nat) (cs : Array Value) (hb : b ≠ g) : (w.setRow g cs).heap[b]? = w.heap[b]? := by
  simp only [World.setRow, Array.getElem?_modify]
  rw [if_neg (Ne.symm hb)]
theorem bel_setRow {E : Nat → Prop} (w : World) (g : Nat) (cs : Array Value) (hg : E g) : Bel E w (w.setRow g cs) :=
  ⟨rfl, rfl, rfl, by simp [World.setRow], fun k _ he => setRow_other w g k cs (fun e => he (e ▸ hg))⟩

/-- A variable is written. -/
theorem RH.setBox (H : RH P C F φ h w) {id : Nat} {c c' : List PV} (hid : h id = .box c) (vs : List Value) (hl : vs.length = c'.length)
    (hr : ∀ (i : Nat) (p : PV) (u : Value), c'[i]? = some p → vs[i]? = some u → RepP F φ h p u ∧ u.oneCell' = true) :
    RH P C F φ (upo h id (.box c')) (w.setRow (φ id).1 vs.toArray) := by
  have ho := H.objs id
  rw [hid] at ho
  obtain ⟨us, ty, h1, h2, h3, h4⟩ := ho
  have hlv : (h id).live = true := by rw [hid]; rfl
  have hsame : (w.setRow (φ id).1 vs.toArray).heap[(φ id).1]? = some (.cells vs.toArray ty (0, 0)) := setRow_heap w _ _ _ _ _ h1
  have hs := HStep.box (φ := φ) (c' := c') hid
  have := H.put (w' := w.setRow (φ id).1 vs.toArray) (F' := F) (rid := id) (.box c') (φ id) (by rw [upd_self]; exact hs) (Fz.le_refl _) (fun a u hu => ?_) (fun a u h5 h6 => by rw [h5] at h6; cases h6)
    (bel_setRow w _ _ ⟨rfl, hlv⟩) (.inr ⟨rfl, hlv⟩) (by
      rw [upd_self]
      exact ⟨vs, ty, hsame, hl, fun i p u a b => ⟨(hr i p u a b).1.step hs, (hr i p u a b).2⟩, h4⟩)
  · rwa [upd_self] at this
  · have hne : a.block ≠ (φ id).1 := by
      intro e
      have hc := H.agree _ _ hu
      obtain ⟨b, o, s⟩ := a
      simp only at e; subst e
      cases s with
      | none => rw [h4] at hu; cases hu
      | some s => simp [World.cell?, h1] at hc
    have := H.agree _ _ hu
    unfold World.cell? at this ⊢
    rw [setRow_other w _ _ _ hne]; exact this

/-- A row is written. -/
theorem RH.setGrow (H : RH P C F φ h w) {id v e sz : Nat} {c c' : List PV} (hid : h id = .grow v c e sz) (vs : List Value) (hl : vs.length = (φ id).2 * sz) (hc : c'.length ≤ vs.length)
    (hr : ∀ (i : Nat) (p : PV) (u : Value), c'[i]? = some p → vs[i]? = some u → RepP F φ h p u ∧ u.oneCell' = true) :
    RH P C F φ (upo h id (.grow v c' e sz)) (w.setRow (φ id).1 vs.toArray) := by
  have ho := H.objs id
  rw [hid] at ho
  obtain ⟨us, h1, h2, h3, h4, h5, h6⟩ := ho
  have hlv : (h id).live = true := by rw [hid]; rfl
  have hsame : (w.setRow (φ id).1 vs.toArray).heap[(φ id).1]? = some (.cells vs.toArray e (0, 0)) := setRow_heap w _ _ _ _ _ h1
  have hs := HStep.grow (φ := φ) (c' := c') hid
  have := H.put (w' := w.setRow (φ id).1 vs.toArray) (F' := F) (rid := id) (.grow v c' e sz) (φ id) (by rw [upd_self]; exact hs) (Fz.le_refl _) (fun a u hu => ?_) (fun a u h5 h6 => by rw [h5] at h6; cases h6)
    (bel_setRow w _ _ ⟨rfl, hlv⟩) (.inr ⟨rfl, hlv⟩) (by
      rw [upd_self]
      exact ⟨vs, hsame, hl, hc, h4, fun i p u a b => ⟨(hr i p u a b).1.step hs, (hr i p u a b).2⟩, h6⟩)
  · rwa [upd_self] at this
  · have hne : a.block ≠ (φ id).1 := by
      intro e
      have hc := H.agree _ _ hu
      obtain ⟨b, o, s⟩ := a
      simp only at e; subst e
      cases s with
      | none => rw [h6] at hu; cases hu
      | some s => simp [World.cell?, h1] at hc
    have := H.agree _ _ hu
    unfold World.cell? at this ⊢
    rw [setRow_other w _ _ _ hne]; exact this

/-- A new row that is written. -/
theorem RH.allocGrow (H : RH P C F φ h w) {rid : Nat} (us : List Value) (e : TypeId) (cap : Nat) (cells : List PV) (hs : HStep φ (upd φ rid (w.heap.size, cap)) h (upo h rid (.grow v cells e sz)))
    (hl : us.length = cap * sz) (hc : cells.length ≤ us.length) (hsz : P.cellsOf e = sz)
    (hr : ∀ (i : Nat) (c : PV) (u : Value), cells[i]? = some c → us[i]? = some u → RepP F φ h c u ∧ u.oneCell' = true) :
    RH P C F (upd φ rid (w.heap.size, cap)) (upo h rid (.grow v cells e sz)) (w.alloc (.cells us.toArray e)) := by
  refine H.put _ _ hs (Fz.le_refl _) (agree_alloc H _) (fun a u h1 h2 => by rw [h1] at h2; cases h2) (Below.bel (below_alloc _ _)) (.inl (Nat.le_refl _)) ⟨us, ?_, ?_, hc, hsz, fun i c u a b => ⟨(hr i c u a b).1.step hs, (hr i c u a b).2⟩, fun i => ?_⟩
  · rw [upd_same]; exact alloc_new _ _
  · rw [upd_same]; exact hl
  · rw [upd_same]; exact F_none_new H _ _ (Nat.le_refl _)

end Go.Pm
