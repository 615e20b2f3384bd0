/- The pure machine, part O: code; ranges over functions. -/
import Derived.Test.YtgofljmnlfnlnaaQmN
namespace Go.Pm
open Go Go.RowKit

variable {P : Program} {C : Cx} {F F' : Fz} {φ φ' : Nat → Nat × Nat} {h h' : Hp} {w w' : World} {J : Gh}

/-- Whatever stands for s stands for s' too; of the objects of the call's beginning (below k) none is let go. -/
def Weak (P : Program) (k : Nat) (s s' : PS) : Prop := ∀ C J a w, Stable C.w0.heap.size C.E J → (∀ id, k ≤ id → C.h0 id = .res) → R P C J s a w → R P C J s' a w
theorem Weak.refl (k : Nat) (s : PS) : Weak P k s s := fun _ _ _ _ _ _ h => h
theorem Weak.trans {k : Nat} {s s' s'' : PS} (h : Weak P k s s') (h' : Weak P k s' s'') : Weak P k s s'' := fun C J a w hst hk r => h' C J a w hst hk (h C J a w hst hk r)

def seqQ (K : PS → Prop) (Q : Exit → PS → Prop) : Exit → PS → Prop
  | .normal, s => K s
  | e, s => Q e s
def blockQ (id : Nat) (Q : Exit → PS → Prop) : Exit → PS → Prop
  | .exit id', s => if id' = id then Q .normal s else Q (.exit id') s
  | e, s => Q e s

def scopeQ (Q : Exit → PS → Prop) : Exit → PS → Prop
  | .goto _, _ => False
  | e, s => Q e s

def isJump : Exit → Bool
  | .ret | .exit _ | .goto _ => true
  | _ => false

/-- The contract of a function that is ranged over: whoever it is handed, it calls it with xs, one after the other, until it says 'no more'. -/
def Iter (P : Program) (f : FuncId) (pre caps : List TV) (xs : List (List TV)) : Prop :=
  FnOk P f ∧ ∀ (m : Nat) (stop : Bool), m ≤ xs.length → (stop = false → m = xs.length) → (stop = true → 0 < m) →
    ∀ (J : Gh) (l : Nat) (w : World) (F : Fz) (G : Nat → Prop) (vs us : List Value), Stable w.heap.size G J → YOk P J ⟨l, xs, m, stop⟩ → (∀ a u, F a = some u → w.cell? a = some u) → (∀ b, G b → b < w.heap.size) →
      RepL F pre vs → RepL F caps us → J 0 F G w →
      Calls P f (vs ++ .func (.yield l) #[] #[] :: us).toArray w fun e w' => ∃ u F' G', e = .returned u ∧ J m F' G' w' ∧ F.le F' ∧ (∀ a u, F' a = some u → w'.cell? a = some u) ∧ Bel G w w'

structure PX where
  Y : YS
  k : Nat
  inr : Bool
def noY : YS := ⟨0, [], 0, false⟩
theorem noY_ok : YOk P J noY := fun n F G w us k as h => by cases h

def setPs (tm : List PV) (ps : List Tmp) (xs : List TV) : List PV := (ps.zip xs).foldl (fun t p => t.set p.1 (.t p.2)) tm

/-- A walk through code. -/
def pwp (P : Program) (X : PX) : Code → (Exit → PS → Prop) → PS → Prop
  | .skip, Q => fun σ => Q .normal σ
  | .label _, Q => fun σ => Q .normal σ
  | .region _ ops draw, Q => pregion P X.Y ops draw (Q .normal)
  | .seq a b, Q => pwp P X a (seqQ (pwp P X b Q) Q)
  | .cond c a b, Q => fun σ => ∃ t, σ.eval c = .t (.bool t) ∧ (t = true → pwp P X a Q σ) ∧ (t = false → pwp P X b Q σ)
  | .block id c, Q => pwp P X c (blockQ id Q)
  | .scope c, Q => pwp P X c (scopeQ Q)
  | .loop c, Q => fun σ => ∃ (A : Type) (S : A → PS) (μ : A → Nat) (x0 : A), Weak P X.k σ (S x0) ∧
      ∀ x, pwp P X c (seqQ (fun s' => ∃ x', Weak P X.k s' (S x') ∧ μ x' < μ x) Q) (S x)
  | .exit id, Q => fun σ => Q (.exit id) σ
  | .ret, Q => fun σ => Q .ret σ
  | .rangeFunc g ps assign body, Q => fun σ => X.inr = false ∧ ∃ (f : FuncId) (pre caps : List TV) (xs : List (List TV)) (T : List PV) (S : Nat → Hp) (k m : Nat) (stop : Bool) (e : Exit),
      Weak P X.k σ ⟨T, S 0⟩ ∧ (⟨T, S 0⟩ : PS).eval g = .t (.fn f pre caps) ∧ Iter P f pre caps xs ∧ (∀ x ∈ xs, x.length = ps.size) ∧ m ≤ xs.length ∧ (stop = false → m = xs.length ∧ e = .normal) ∧ (stop = true → 0 < m ∧ isJump e = true) ∧
      (∀ i id, k ≤ id → S i id = .res) ∧ (∀ i, cntOf (S i) = cntOf (S 0)) ∧
      (∀ i x, i < m → xs[i]? = some x → pwp P ⟨noY, k, true⟩ assign (seqQ (pwp P ⟨noY, k, true⟩ body fun e' s' => (e' = if stop = true ∧ i + 1 = m then e else .normal) ∧ Weak P k ⟨[], s'.heap⟩ ⟨[], S (i + 1)⟩) fun _ _ => False) ⟨setPs T ps.toList x, S i⟩) ∧
      Q e ⟨T, S m⟩
  | _, _ => fun _ => False

def liftQ (P : Program) (C : Cx) (J : Gh) (Q : Exit → PS → Prop) : Exit → Act → World → Prop := fun e a w => ∃ s, Q e s ∧ R P C J s a w

/-! ### Surroundings -/
theorem RH.transE (H : RH P C F φ h w) {E : Nat → Prop} (hE : ∀ b, E b → C.w0.heap.size ≤ b ∨ C.E b) (H' : RH P ⟨w, F, h, φ, E⟩ F' φ' h' w') : RH P C F' φ' h' w' := by
  have hsz := H.bel.size
  refine ⟨H'.agree, Fz.le_trans H.more H'.more, fun a u h1 h2 => ?_, H'.objs, H'.inj, fun i li => ?_, ⟨H'.bel.os.trans H.bel.os, H'.bel.tape.trans H.bel.tape, H'.bel.output.trans H.bel.output, Nat.le_trans hsz H'.bel.size, fun k hk he => ?_⟩, H.step.trans H'.step⟩
  · cases hFa : F a with
    | some v => exact H.news a v hFa h2
    | none =>
      rcases H'.news a u h1 hFa with h3 | h3
      · exact .inl (Nat.le_trans hsz h3)
      · exact hE _ h3
  · rcases H'.high i li with h3 | h3
    · exact .inl (Nat.le_trans hsz h3)
    · exact hE _ h3
  · rw [H'.bel.block k (Nat.lt_of_lt_of_le hk hsz) (fun ho => by
      rcases hE k ho with h3 | h3
      · omega
      · exact he h3)]
    exact H.bel.block k hk he

theorem putObj_bel {E : Nat → Prop} (w : World) (D : Nat) (o : Obj) (hE : E D) : Bel E w (w.putObj D o) :=
  ⟨rfl, rfl, rfl, by simp, fun k _ he => World.putObj_heap_other fun e => he (e ▸ hE)⟩
/-- A block of cells, or a map. -/
def dataObj : Obj → Bool | .cells _ _ _ => true | .map _ _ => true | _ => false
theorem own_cells (H : RH P C F φ h w) {b : Nat} (ho : own φ h b) : ∃ o, w.heap[b]? = some o ∧ dataObj o = true := by
  obtain ⟨id, li, e⟩ := ho
  subst e
  have hob := H.objs id
  cases hh : h id with
  | box c => rw [hh] at hob; obtain ⟨us, ty, h1, _⟩ := hob; exact ⟨_, h1, rfl⟩
  | ro c => rw [hh] at hob; obtain ⟨us, ty, h1, _⟩ := hob; exact ⟨_, h1, rfl⟩
  | grow v c e sz => rw [hh] at hob; obtain ⟨us, h1, _⟩ := hob; exact ⟨_, h1, rfl⟩
  | gro v c e sz => rw [hh] at hob; obtain ⟨us, h1, _⟩ := hob; exact ⟨_, h1, rfl⟩
  | mp t m => rw [hh] at hob; obtain ⟨es, clock, ents, h1, _⟩ := hob; exact ⟨_, h1, rfl⟩
  | tok n e => rw [hh] at hob li; obtain ⟨us, h1, _⟩ := hob (by simpa [PO.live] using li); exact ⟨_, h1, rfl⟩
  | cnt => rw [hh] at li; cases li
  | res => rw [hh] at li; cases li
theorem F_cells (H : RH P C F φ h w) {a : Addr} {u : Value} (hF : F a = some u) : ∃ us ty fr, w.heap[a.block]? = some (.cells us ty fr) := by
  have hc := H.agree _ _ hF
  unfold World.cell? at hc
  cases hb : w.heap[a.block]? with
  | none => rw [hb] at hc; simp at hc
  | some o => cases o <;> rw [hb] at hc <;> first | exact ⟨_, _, _, rfl⟩ | simp at hc

/-- A block that is no cells turns. -/
theorem RH.putObj (H : RH P C F φ h w) {D : Nat} {o o' : Obj} (hD : w.heap[D]? = some o) (hn : dataObj o = false) (hC : C.w0.heap.size ≤ D ∨ C.E D) : RH P C F φ h (w.putObj D o') := by
  have hno : ∀ b, own φ h b → b ≠ D := by
    rintro b ho rfl
    obtain ⟨o2, h1, h2⟩ := own_cells H ho
    rw [hD] at h1; cases h1; rw [hn] at h2; cases h2
  refine ⟨fun a u hu => ?_, H.more, H.news, fun id => ?_, H.inj, H.high, ⟨H.bel.os, H.bel.tape, H.bel.output, by simpa using H.bel.size, fun k hk he => ?_⟩, H.step⟩
  · obtain ⟨us, ty, fr, h1⟩ := F_cells H hu
    have hne : a.block ≠ D := by rintro e; rw [e, hD] at h1; cases h1; cases hn
    have := H.agree _ _ hu
    unfold World.cell? at this ⊢
    rw [World.putObj_heap_other hne]; exact this
  · exact (H.objs id).step (fun _ => rfl) (HStep.refl _ _) (Fz.le_refl _) (fun _ _ => rfl) (fun li => World.putObj_heap_other (hno _ ⟨id, li, rfl⟩))
  · have hne : k ≠ D := by
      rintro rfl
      rcases hC with h3 | h3
      · omega
      · exact he h3
    rw [World.putObj_heap_other hne]; exact H.bel.block k hk he

theorem RTm.setPs {ps : List PV} {us : Array Value} (hr : RTm F φ h ps us) : ∀ (ts : List Tmp) (xs : List TV) (vs : List Value), RepL F xs vs → RTm F φ h (setPs ps ts xs) ((ts.zip vs).foldl (fun t p => t.setIfInBounds p.1 p.2) us)
  | [], xs, vs, _ => by simpa [Pm.setPs] using hr
  | t :: ts, [], vs, hx => by
    have : vs = [] := List.eq_nil_of_length_eq_zero (by simpa using hx.1)
    subst this; simpa [Pm.setPs] using hr
  | t :: ts, x :: xs, [], hx => by have := hx.1; simp at this
  | t :: ts, x :: xs, v :: vs, hx => by
    have h1 : RepT F x v := hx.2 0 x v rfl rfl
    have h2 : RepL F xs vs := ⟨by have := hx.1; simpa using this, fun i c u a b => hx.2 (i + 1) c u (by simpa using a) (by simpa using b)⟩
    exact RTm.setPs (hr.put t (v := .t x) (u := v) h1) ts xs vs h2

end Go.Pm
