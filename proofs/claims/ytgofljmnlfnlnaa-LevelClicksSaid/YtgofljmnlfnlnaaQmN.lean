/- The pure machine, part N: regions, in the order of the text and in whatever order their edges allow. -/
import Derived.Test.YtgofljmnlfnlnaaQmM
namespace Go.Pm
open Go Go.RowKit

/-! ### Writes into a list, some of them made -/
section
variable {α : Type}
def wrL (l : List α) (W : List (Nat × α)) : List α := W.foldl (fun l p => l.set p.1 p.2) l
theorem wrL_length (W : List (Nat × α)) : ∀ l : List α, (wrL l W).length = l.length := by
  induction W with
  | nil => intro l; rfl
  | cons p W ih => intro l; show (wrL (l.set p.1 p.2) W).length = _; rw [ih]; simp
theorem wrL_other (W : List (Nat × α)) : ∀ (l : List α) (x : Nat), (∀ v, (x, v) ∉ W) → (wrL l W)[x]? = l[x]? := by
  induction W with
  | nil => intro l x _; rfl
  | cons p W ih =>
    intro l x hx
    show (wrL (l.set p.1 p.2) W)[x]? = _
    rw [ih _ _ fun v hv => hx v (List.mem_cons_of_mem _ hv)]
    rw [List.getElem?_set_ne]
    intro e; exact hx p.2 (by rw [← e]; exact List.mem_cons_self)
theorem wrL_congr (W : List (Nat × α)) : ∀ (l l' : List α) (x : Nat), l[x]? = l'[x]? → (wrL l W)[x]? = (wrL l' W)[x]? := by
  induction W with
  | nil => intro l l' x h; exact h
  | cons p W ih =>
    intro l l' x h
    refine ih _ _ x ?_
    by_cases hx : p.1 = x
    · subst hx
      rw [List.getElem?_set_self', List.getElem?_set_self', h]
    · rw [List.getElem?_set_ne hx, List.getElem?_set_ne hx]; exact h

def runW (Ws : Nat → List (Nat × α)) (p : Nat → Bool) (n : Nat) (l : List α) : List α := (List.range n).foldl (fun l i => if p i then wrL l (Ws i) else l) l
theorem runW_succ (Ws : Nat → List (Nat × α)) (p : Nat → Bool) (n : Nat) (l : List α) : runW Ws p (n + 1) l = if p n then wrL (runW Ws p n l) (Ws n) else runW Ws p n l := by
  simp [runW, List.range_succ, List.foldl_append]
theorem runW_length (Ws : Nat → List (Nat × α)) (p : Nat → Bool) (n : Nat) (l : List α) : (runW Ws p n l).length = l.length := by
  induction n with
  | zero => rfl
  | succ n ih =>
    rw [runW_succ]
    split
    · rw [wrL_length, ih]
    · exact ih
theorem runW_congr {Ws : Nat → List (Nat × α)} {p p' : Nat → Bool} {l : List α} {x : Nat} : ∀ (n : Nat), (∀ j, j < n → (∃ v, (x, v) ∈ Ws j) → p j = p' j) → (runW Ws p n l)[x]? = (runW Ws p' n l)[x]?
  | 0, _ => rfl
  | n + 1, h => by
    have ih := runW_congr (l := l) n fun j hj => h j (by omega)
    rw [runW_succ, runW_succ]
    by_cases hw : ∃ v, (x, v) ∈ Ws n
    · rw [h n (by omega) hw]
      split
      · exact wrL_congr _ _ _ _ ih
      · exact ih
    · have hn : ∀ v, (x, v) ∉ Ws n := fun v hv => hw ⟨v, hv⟩
      have e : ∀ q : Nat → Bool, (if q n = true then wrL (runW Ws q n l) (Ws n) else runW Ws q n l)[x]? = (runW Ws q n l)[x]? := by
        intro q
        split
        · exact wrL_other _ _ _ hn
        · rfl
      rw [e, e]; exact ih
theorem runW_none {Ws : Nat → List (Nat × α)} {p : Nat → Bool} {l : List α} {k : Nat} : ∀ (n : Nat), k ≤ n → (∀ j, k ≤ j → j < n → p j = false) → runW Ws p n l = runW Ws p k l
  | 0, hk, _ => by have : k = 0 := by omega
                   subst this; rfl
  | n + 1, hk, h => by
    by_cases e : k = n + 1
    · subst e; rfl
    · rw [runW_succ, h n (by omega) (by omega)]
      exact runW_none n (by omega) fun j a b => h j a (by omega)
theorem runW_insert {Ws : Nat → List (Nat × α)} {p : Nat → Bool} {n i : Nat} {l : List α} (hi : i < n) (hpi : p i = false) (hlate : ∀ j, i < j → j < n → p j = true → ∀ x v v', (x, v) ∈ Ws i → (x, v') ∉ Ws j) :
    runW Ws (fun j => p j || j == i) n l = wrL (runW Ws p n l) (Ws i) := by
  apply List.ext_getElem?
  intro x
  by_cases hw : ∃ v, (x, v) ∈ Ws i
  · obtain ⟨v, hv⟩ := hw
    have e1 : (runW Ws (fun j => p j || j == i) n l)[x]? = (runW Ws (fun j => (p j || j == i) && decide (j ≤ i)) n l)[x]? := by
      refine runW_congr n fun j hj ⟨v', hv'⟩ => ?_
      by_cases hji : j ≤ i
      · simp [hji]
      · have : p j = false := by
          cases hp : p j with
          | false => rfl
          | true => exact absurd hv' (hlate j (by omega) hj hp x v v' hv)
        have hne : (j == i) = false := by simp; omega
        simp [this, hne, hji]
    have e2 : (runW Ws p n l)[x]? = (runW Ws (fun j => p j && decide (j < i)) n l)[x]? := by
      refine runW_congr n fun j hj ⟨v', hv'⟩ => ?_
      by_cases hji : j < i
      · simp [hji]
      · by_cases he : j = i
        · subst he; simp [hpi]
        · have : p j = false := by
            cases hp : p j with
            | false => rfl
            | true => exact absurd hv' (hlate j (by omega) hj hp x v v' hv)
          simp [this]
    rw [e1]
    rw [runW_none (k := i + 1) n (by omega) (fun j a b => by simp; omega)]
    rw [runW_succ]
    simp only [beq_self_eq_true, Bool.or_true, Nat.le_refl, decide_true, Bool.and_self, if_true]
    refine wrL_congr _ _ _ _ ?_
    rw [e2, runW_none (k := i) n (by omega) (fun j a b => by simp; omega)]
    refine runW_congr i fun j hj _ => ?_
    have hne : (j == i) = false := by simp; omega
    simp [hj, hne]
    omega
  · have hn : ∀ v, (x, v) ∉ Ws i := fun v hv => hw ⟨v, hv⟩
    rw [wrL_other _ _ _ hn]
    refine runW_congr n fun j hj hx => ?_
    by_cases he : j = i
    · subst he; exact absurd hx hw
    · simp [he]
end


/-! ### Writes into the heap, some of them made -/
theorem wr_congr (W : Wr) : ∀ (l l' : Hp) (x : Nat), l x = l' x → wr l W x = wr l' W x := by
  induction W with
  | nil => intro l l' x h; exact h
  | cons p W ih =>
    intro l l' x h
    refine ih _ _ x ?_
    show upo l p.1 p.2 x = upo l' p.1 p.2 x
    by_cases hx : x = p.1
    · subst hx; rw [upo_same, upo_same]
    · rw [upo_other _ _ hx, upo_other _ _ hx]; exact h
def runH (Ws : Nat → Wr) (p : Nat → Bool) (n : Nat) (l : Hp) : Hp := (List.range n).foldl (fun l i => if p i then wr l (Ws i) else l) l
theorem runH_succ (Ws : Nat → Wr) (p : Nat → Bool) (n : Nat) (l : Hp) : runH Ws p (n + 1) l = if p n then wr (runH Ws p n l) (Ws n) else runH Ws p n l := by
  simp [runH, List.range_succ, List.foldl_append]
theorem runH_congr {Ws : Nat → Wr} {p p' : Nat → Bool} {l : Hp} {x : Nat} : ∀ (n : Nat), (∀ j, j < n → (∃ v, (x, v) ∈ Ws j) → p j = p' j) → runH Ws p n l x = runH Ws p' n l x
  | 0, _ => rfl
  | n + 1, h => by
    have ih := runH_congr (l := l) n fun j hj => h j (by omega)
    rw [runH_succ, runH_succ]
    by_cases hw : ∃ v, (x, v) ∈ Ws n
    · rw [h n (by omega) hw]
      split
      · exact wr_congr _ _ _ _ ih
      · exact ih
    · have hn : ∀ v, (x, v) ∉ Ws n := fun v hv => hw ⟨v, hv⟩
      have e : ∀ q : Nat → Bool, (if q n = true then wr (runH Ws q n l) (Ws n) else runH Ws q n l) x = runH Ws q n l x := by
        intro q
        split
        · exact wr_out _ _ _ hn
        · rfl
      rw [e, e]; exact ih
theorem runH_none {Ws : Nat → Wr} {p : Nat → Bool} {l : Hp} {k : Nat} : ∀ (n : Nat), k ≤ n → (∀ j, k ≤ j → j < n → p j = false) → runH Ws p n l = runH Ws p k l
  | 0, hk, _ => by have : k = 0 := by omega
                   subst this; rfl
  | n + 1, hk, h => by
    by_cases e : k = n + 1
    · subst e; rfl
    · rw [runH_succ, h n (by omega) (by omega)]
      exact runH_none n (by omega) fun j a b => h j a (by omega)
theorem runH_insert {Ws : Nat → Wr} {p : Nat → Bool} {n i : Nat} {l : Hp} (hi : i < n) (hpi : p i = false) (hlate : ∀ j, i < j → j < n → p j = true → ∀ x v v', (x, v) ∈ Ws i → (x, v') ∉ Ws j) :
    runH Ws (fun j => p j || j == i) n l = wr (runH Ws p n l) (Ws i) := by
  funext x
  by_cases hw : ∃ v, (x, v) ∈ Ws i
  · obtain ⟨v, hv⟩ := hw
    have e1 : runH Ws (fun j => p j || j == i) n l x = runH Ws (fun j => (p j || j == i) && decide (j ≤ i)) n l x := by
      refine runH_congr n fun j hj ⟨v', hv'⟩ => ?_
      by_cases hji : j ≤ i
      · simp [hji]
      · have : p j = false := by
          cases hp : p j with
          | false => rfl
          | true => exact absurd hv' (hlate j (by omega) hj hp x v v' hv)
        have hne : (j == i) = false := by simp; omega
        simp [this, hne, hji]
    have e2 : runH Ws p n l x = runH Ws (fun j => p j && decide (j < i)) n l x := by
      refine runH_congr n fun j hj ⟨v', hv'⟩ => ?_
      by_cases hji : j < i
      · simp [hji]
      · by_cases he : j = i
        · subst he; simp [hpi]
        · have : p j = false := by
            cases hp : p j with
            | false => rfl
            | true => exact absurd hv' (hlate j (by omega) hj hp x v v' hv)
          simp [this]
    rw [e1]
    rw [runH_none (k := i + 1) n (by omega) (fun j a b => by simp; omega)]
    rw [runH_succ]
    simp only [beq_self_eq_true, Bool.or_true, Nat.le_refl, decide_true, Bool.and_self, if_true]
    refine wr_congr _ _ _ _ ?_
    rw [e2, runH_none (k := i) n (by omega) (fun j a b => by simp; omega)]
    refine runH_congr i fun j hj _ => ?_
    have hne : (j == i) = false := by simp; omega
    simp [hj, hne]
    omega
  · have hn : ∀ v, (x, v) ∉ Ws i := fun v hv => hw ⟨v, hv⟩
    rw [wr_out _ _ _ hn]
    refine runH_congr n fun j hj hx => ?_
    by_cases he : j = i
    · subst he; exact absurd hx hw
    · simp [he]

variable {P : Program} {C : Cx} {J : Gh} {Y : YS} {w : World}

/-- One step at index i, with what it touches. -/
def StepAt (P : Program) (Y : YS) (ops : Array Oper) (i : Nat) (σ σ' : PS) (f : Foot) : Prop := ∃ o W, ops[i]? = some o ∧ OpStep P Y ops o σ σ' W f

/-- The operations of a region, one after the other. -/
def pops (P : Program) (Y : YS) (ops : Array Oper) : List Nat → PS → List Foot → (PS → List Foot → Prop) → Prop
  | [], σ, fs, K => K σ fs
  | i :: l, σ, fs, K => ∃ σ' f, StepAt P Y ops i σ σ' f ∧ pops P Y ops l σ' (fs ++ [f]) K

def edgesO (o : Oper) : List Nat := (o.after.toList.filter (Region.binds .any)).map (·.on)
def bitsAt (acc : List Nat) (es : List Nat) : Nat := es.foldl (fun s k => s ||| 2 ^ k ||| acc.getD k 0) 0
def bitsGo : List Oper → List Nat → List Nat
  | [], acc => acc
  | o :: l, acc => bitsGo l (acc ++ [bitsAt acc (edgesO o)])
def bitsO (ops : Array Oper) : List Nat := bitsGo ops.toList []
def heapApart (a b : Foot) : Bool := (!a.2 && !b.2) || a.1.all fun x => !b.1.contains x
def pairOk (ops : Array Oper) (bits : List Nat) (fs : List Foot) (i j : Nat) : Bool :=
  (bits.getD i 0).testBit j || (match ops[i]?, ops[j]? with | some a, some b => a.apart ops b | _, _ => false) && heapApart (fs.getD i ([], false)) (fs.getD j ([], false))
def drawOk (ops : Array Oper) (fs : List Foot) : Bool :=
  (List.range ops.size).all fun i => (match ops[i]? with | some o => (edgesO o).all (· < i) | none => true) && (List.range i).all fun j => pairOk ops (bitsO ops) fs i j

/-- A region: its operations in the order of the text; where its order is drawn, no two that are not ordered meet. -/
def pregion (P : Program) (Y : YS) (ops : Array Oper) (draw : Bool) (K : PS → Prop) (σ : PS) : Prop :=
  pops P Y ops (List.range ops.size) σ [] fun σ' fs => (draw = true → drawOk ops fs = true) ∧ K σ'

theorem wpOpsIn_congr {F : Fence} {n : Nat} {ops : Array Oper} {Q : Exit → Act → World → Prop} {l : List Nat} {a : Act} (i : Nat) {o : Oper} (ho : ops[i]? = some o)
    (h : if Region.wanted o (yielded ops a.tmps) = true then o.wpIn F n P a w (wpOpsIn F n P ops Q l) Q else (∀ f, o.about P w a.eval = some f → F.fn f) ∧ wpOpsIn F n P ops Q l (a.put o.dst undef) w) : wpOpsIn F n P ops Q (i :: l) a w := by
  simp only [wpOpsIn, ho]
  exact h

/-- In the order of the text. -/
theorem pops_sound {r : Option Nat} {n : Nat} (hY : YOk P J Y) (hst : Stable C.w0.heap.size C.E J) {ops : Array Oper} {Q : Exit → Act → World → Prop} : ∀ (l : List Nat) (σ : PS) (fs : List Foot) (K : PS → List Foot → Prop) (a : Act) (w : World),
    pops P Y ops l σ fs K → R P C J σ a w → (∀ σ' fs a' w', K σ' fs → R P C J σ' a' w' → Q .normal a' w') → wpOpsIn (Fr r) n P ops Q l a w
  | [], σ, fs, K, a, w, h, hR, hK => hK σ fs a w h hR
  | i :: l, σ, fs, K, a, w, h, hR, hK => by
    obtain ⟨σ', f, ⟨o, W, ho, hst'⟩, hl⟩ := h
    exact wpOpsIn_congr i ho (step_sim hY hst hst' hR fun a' w' hR' => pops_sound hY hst l σ' _ K a' w' hl hR' hK)

/-! ### Any order -/
theorem bitsGo_len (l : List Oper) : ∀ acc, (bitsGo l acc).length = acc.length + l.length := by
  induction l with
  | nil => intro acc; rfl
  | cons o l ih => intro acc; simp only [bitsGo]; rw [ih]; simp; omega
theorem bitsGo_pre (l : List Oper) : ∀ acc i, i < acc.length → (bitsGo l acc)[i]? = acc[i]? := by
  induction l with
  | nil => intro acc i _; rfl
  | cons o l ih =>
    intro acc i hi
    simp only [bitsGo]
    rw [ih _ _ (by simp; omega), List.getElem?_append_left hi]
theorem bitsGo_at (l : List Oper) : ∀ acc k o, l[k]? = some o → ∃ pre : List Nat, pre.length = acc.length + k ∧ (∀ i, i < pre.length → (bitsGo l acc)[i]? = pre[i]?) ∧ (bitsGo l acc)[acc.length + k]? = some (bitsAt pre (edgesO o)) := by
  induction l with
  | nil => intro acc k o hk; simp at hk
  | cons x l ih =>
    intro acc k o hk
    simp only [bitsGo]
    cases k with
    | zero =>
      simp at hk; subst hk
      refine ⟨acc, rfl, fun i hi => ?_, ?_⟩
      · rw [bitsGo_pre _ _ _ (by simp; omega), List.getElem?_append_left hi]
      · rw [bitsGo_pre _ _ _ (by simp)]; simp
    | succ k =>
      obtain ⟨pre, h1, h2, h3⟩ := ih (acc ++ [bitsAt acc (edgesO x)]) k o (by simpa using hk)
      refine ⟨pre, by simp at h1; omega, h2, ?_⟩
      have e : (acc ++ [bitsAt acc (edgesO x)]).length + k = acc.length + (k + 1) := by simp; omega
      rw [e] at h3; exact h3
theorem bitsAt_test (acc : List Nat) (j : Nat) : ∀ (es : List Nat) (s : Nat), (es.foldl (fun s k => s ||| 2 ^ k ||| acc.getD k 0) s).testBit j = true → s.testBit j = true ∨ ∃ k ∈ es, j = k ∨ (acc.getD k 0).testBit j = true := by
  intro es
  induction es with
  | nil => intro s h; exact .inl h
  | cons k es ih =>
    intro s h
    simp only [List.foldl_cons] at h
    rcases ih _ h with h | ⟨k', hk', h⟩
    · simp only [Nat.testBit_or, Bool.or_eq_true, Nat.testBit_two_pow, decide_eq_true_eq] at h
      rcases h with (h | h) | h
      · exact .inl h
      · exact .inr ⟨k, List.mem_cons_self, .inl h.symm⟩
      · exact .inr ⟨k, List.mem_cons_self, .inr h⟩
    · exact .inr ⟨k', List.mem_cons_of_mem _ hk', h⟩

/-- What is ordered ahead of a member of a set that is closed under edges lies in the set. -/
theorem bits_closed {ops : Array Oper} {D : Nat → Bool} (hD : ∀ i o, ops[i]? = some o → D i = true → ∀ e ∈ edgesO o, D e = true) (hlt : ∀ i o, ops[i]? = some o → ∀ e ∈ edgesO o, e < i) :
    ∀ (i : Nat) (o : Oper), ops[i]? = some o → (∀ e ∈ edgesO o, D e = true) → ∀ j, ((bitsO ops).getD i 0).testBit j = true → D j = true := by
  intro i
  induction i using Nat.strongRecOn with
  | _ i ih =>
    intro o ho he j hj
    obtain ⟨pre, h1, h2, h3⟩ := bitsGo_at ops.toList [] i o (by simpa using ho)
    simp only [List.length_nil, Nat.zero_add] at h1 h3
    have e1 : (bitsO ops).getD i 0 = bitsAt pre (edgesO o) := by rw [List.getD_eq_getElem?_getD]; unfold bitsO; rw [h3]; rfl
    rw [e1] at hj
    rcases bitsAt_test pre j _ _ hj with h | ⟨k, hk, h⟩
    · simp at h
    · rcases h with rfl | h
      · exact he _ hk
      · have hki := hlt i o ho k hk
        have e2 : pre.getD k 0 = (bitsO ops).getD k 0 := by
          rw [List.getD_eq_getElem?_getD, List.getD_eq_getElem?_getD, ← h2 k (by omega)]; rfl
        rw [e2] at h
        have hks : k < ops.size := by have := (Array.getElem?_eq_some_iff.1 ho).1; omega
        exact ih k hki ops[k] (Array.getElem?_eq_getElem hks) (hD k _ (Array.getElem?_eq_getElem hks) (he k hk)) j h

theorem eval_congr {σ τ : PS} {x : Operand} (h : ∀ t, x = .tmp t → τ.tmps[t]? = σ.tmps[t]?) : τ.eval x = σ.eval x := by
  cases x with
  | tmp t => simp only [PS.eval, List.getD_eq_getElem?_getD, h t rfl]
  | _ => rfl

theorem seenBy_congr {o : Oper} {b : Bool} {ρ ρ' : Operand → PV} {x : Operand} (h : ρ' x = ρ x) : seenBy o b ρ' x = seenBy o b ρ x := by
  unfold seenBy
  split
  · exact h
  · rw [h]

def dstW (o : Oper) (v : PV) : List (Nat × PV) := match o.dst with | some d => [(d, v)] | none => []
theorem put_eq (σ : PS) (o : Oper) (v : PV) (h : Hp) : σ.put o.dst v h = ⟨wrL σ.tmps (dstW o v), h⟩ := by
  unfold PS.put dstW
  cases o.dst <;> rfl

structure Inst (P : Program) (Y : YS) (ops : Array Oper) (i : Nat) (σ σ' : PS) (f : Foot) (Wt : List (Nat × PV)) (Wh : Wr) : Prop where
  tm : σ'.tmps = wrL σ.tmps Wt
  hp : σ'.heap = wr σ.heap Wh
  dst : ∀ o, ops[i]? = some o → ∀ x v, (x, v) ∈ Wt → o.dst = some x
  foot : ∀ x o, (x, o) ∈ Wh → x ∈ f.1 ∧ f.2 = true
  same : ∀ o τ, ops[i]? = some o → (∀ t ∈ o.looksAt ops, τ.tmps[t]? = σ.tmps[t]?) → (∀ x ∈ f.1, τ.heap x = σ.heap x) → OpStep P Y ops o τ ⟨wrL τ.tmps Wt, wr τ.heap Wh⟩ Wh f

theorem looks_operand {ops : Array Oper} {o : Oper} {t : Nat} (h : Operand.tmp t ∈ o.op.operands) : t ∈ o.looksAt ops := by
  unfold Oper.looksAt
  refine List.mem_append_left _ (List.mem_filterMap.2 ⟨.tmp t, by simpa using h, rfl⟩)

theorem StepAt.inst {ops : Array Oper} {i : Nat} {σ σ' : PS} {f : Foot} (h : StepAt P Y ops i σ σ' f) : ∃ Wt Wh, Inst P Y ops i σ σ' f Wt Wh := by
  obtain ⟨o, W, h1, b, v, rid, h2, h3, h4, h5⟩ := h
  have gsame : ∀ τ : PS, (∀ t ∈ o.looksAt ops, τ.tmps[t]? = σ.tmps[t]?) → guardO ops o τ = some b := by
    intro τ ht
    rw [← h2]
    unfold guardO
    cases hg : o.guard with
    | none => rfl
    | some g =>
      obtain ⟨j, want⟩ := g
      simp only
      cases hd : (ops[j]?).bind (·.dst) with
      | none => rfl
      | some d =>
        have : d ∈ o.looksAt ops := by
          unfold Oper.looksAt
          refine List.mem_append_right _ ?_
          rw [hg]; simp [hd]
        simp only [ht d this]
  have hdst : ∀ o', ops[i]? = some o' → ∀ x v', (x, v') ∈ dstW o (condW o b v) → o'.dst = some x := by
    intro o' ho' x v' hx
    rw [h1] at ho'; cases ho'
    unfold dstW at hx
    split at hx
    · rename_i d hd; simp at hx; rw [hd, hx.1]
    · cases hx
  cases b with
  | false =>
    have e := h4 rfl
    subst e
    refine ⟨dstW o (condW o false v), [], ?_, ?_, hdst, fun x o hx => (by cases hx), ?_⟩
    · rw [h5, put_eq]
    · rw [h5, put_eq]
    · intro o' τ ho' ht _
      rw [h1] at ho'; cases ho'
      exact ⟨false, v, rid, gsame τ ht, fun e => (by cases e), fun _ => rfl, by rw [put_eq]⟩
  | true =>
    obtain ⟨e2, e3⟩ := opval_loc (h3 rfl)
    refine ⟨dstW o (condW o true v), W, ?_, ?_, hdst, e2, ?_⟩
    · rw [h5, put_eq]
    · rw [h5, put_eq]
    · intro o' τ ho' ht hx
      rw [h1] at ho'; cases ho'
      exact ⟨true, v, rid, gsame τ ht, fun _ => e3 (seenBy o true τ.eval) τ.heap (fun x hx => seenBy_congr (eval_congr fun t e => ht t (looks_operand (e ▸ hx)))) hx, fun e => (by cases e), by rw [put_eq]⟩

/-- The chain of a region's states. -/
theorem pops_chain {ops : Array Oper} {K : PS → List Foot → Prop} : ∀ (m k : Nat) (σ : PS) (fs : List Foot), fs.length = k → pops P Y ops (List.range' k m) σ fs K →
    ∃ (st : Nat → PS) (fs' : List Foot) (Wt : Nat → List (Nat × PV)) (Wh : Nat → Wr), st k = σ ∧ fs'.length = k + m ∧ fs'.take k = fs ∧ K (st (k + m)) fs' ∧
      ∀ i, k ≤ i → i < k + m → Inst P Y ops i (st i) (st (i + 1)) (fs'.getD i ([], false)) (Wt i) (Wh i)
  | 0, k, σ, fs, hk, h => ⟨fun _ => σ, fs, fun _ => [], fun _ => [], rfl, by omega, by rw [List.take_of_length_le (by omega)], h, fun i h1 h2 => by omega⟩
  | m + 1, k, σ, fs, hk, h => by
    rw [List.range'_succ] at h
    obtain ⟨σ', f, hs, hl⟩ := h
    obtain ⟨Wt0, Wh0, hi⟩ := hs.inst
    obtain ⟨st, fs', Wt, Wh, a1, a2, a3, a4, a5⟩ := pops_chain m (k + 1) σ' (fs ++ [f]) (by simp [hk]) hl
    have hf : fs'.getD k ([], false) = f := by
      have : (fs'.take (k + 1))[k]? = some f := by rw [a3]; simp [← hk]
      rw [List.getElem?_take, if_pos (by omega)] at this
      rw [List.getD_eq_getElem?_getD, this]; rfl
    refine ⟨fun j => if j = k then σ else st j, fs', fun j => if j = k then Wt0 else Wt j, fun j => if j = k then Wh0 else Wh j, by simp, by omega, ?_, ?_, fun i h1 h2 => ?_⟩
    · have : (fs'.take (k + 1)).take k = fs := by rw [a3]; rw [List.take_append_of_le_length (by omega), List.take_of_length_le (by omega)]
      rwa [List.take_take, Nat.min_eq_left (by omega)] at this
    · simp only [show ¬ k + (m + 1) = k by omega, if_false]
      rw [show k + (m + 1) = k + 1 + m by omega]; exact a4
    · by_cases e : i = k
      · subst e
        simp only [if_true, show ¬ i + 1 = i by omega, if_false, hf, a1]
        exact hi
      · simp only [e, if_false, show ¬ i + 1 = k by omega]
        exact a5 i (by omega) (by omega)

theorem apart_symm {ops : Array Oper} {x y : Oper} (h : x.apart ops y = true) : y.apart ops x = true := by
  obtain ⟨h1, h2, h3⟩ := Oper.apart_spec h
  unfold Oper.apart
  simp only [Bool.and_eq_true]
  refine ⟨?_, ?_⟩
  · cases hd : y.dst with
    | none => rfl
    | some d =>
      simp only [Bool.and_eq_true, Bool.not_eq_true', bne_iff_ne, ne_eq]
      refine ⟨?_, fun e => h2 d e hd⟩
      have := h3 d hd
      simpa using this
  · cases hd : x.dst with
    | none => rfl
    | some d =>
      have := h1 d hd
      simpa using this

/-- IN WHATEVER ORDER ITS EDGES ALLOW. -/
theorem draw_sound {r : Option Nat} {n : Nat} (hY : YOk P J Y) (hst : Stable C.w0.heap.size C.E J) {ops : Array Oper} {Q : Exit → Act → World → Prop} {σ : PS} {a : Act} {K : PS → Prop}
    (h : pops P Y ops (List.range ops.size) σ [] fun σ' fs => drawOk ops fs = true ∧ K σ') (hR : R P C J σ a w) (hK : ∀ σ' a' w', K σ' → R P C J σ' a' w' → Q .normal a' w') :
    wpAnyIn (Fr r) n P .any ops Q ops.size (Array.replicate ops.size false) a w := by
  rw [List.range_eq_range'] at h
  obtain ⟨st, fs, Wt, Wh, s1, s2, _, ⟨hok, hKn⟩, hinst⟩ := pops_chain ops.size 0 σ [] rfl h
  simp only [Nat.zero_add] at s2 hKn hinst
  have hsti : ∀ i, i ≤ ops.size → st i = ⟨runW Wt (fun _ => true) i σ.tmps, runH Wh (fun _ => true) i σ.heap⟩ := by
    intro i
    induction i with
    | zero => intro _; rw [s1]; rfl
    | succ i ih =>
      intro hi
      have I := hinst i (Nat.zero_le _) (by omega)
      have e := ih (by omega)
      have e1 := I.tm; have e2 := I.hp
      rw [e] at e1 e2
      rw [runW_succ, runH_succ]
      simp only [if_true]
      rw [← e1, ← e2]
  simp only [drawOk, List.all_eq_true, List.mem_range, Bool.and_eq_true] at hok
  have hlt : ∀ i o, ops[i]? = some o → ∀ e ∈ edgesO o, e < i := by
    intro i o ho e he
    have := (hok i (Array.getElem?_eq_some_iff.1 ho).1).1
    rw [ho] at this
    simp only [List.all_eq_true, decide_eq_true_eq] at this
    exact this e he
  -- two that are not ordered do not meet
  have hpair : ∀ i j oi oj, j < i → ops[i]? = some oi → ops[j]? = some oj → ((bitsO ops).getD i 0).testBit j = false → oi.apart ops oj = true ∧ heapApart (fs.getD i ([], false)) (fs.getD j ([], false)) = true := by
    intro i j oi oj hji hi hj hb
    have := (hok i (Array.getElem?_eq_some_iff.1 hi).1).2 j hji
    unfold pairOk at this
    rw [hb, hi, hj] at this
    simpa using this
  let τ (D : Nat → Bool) : PS := ⟨runW Wt D ops.size σ.tmps, runH Wh D ops.size σ.heap⟩
  have key : ∀ (D : Nat → Bool) (i : Nat) (o : Oper), ops[i]? = some o → D i = false → (∀ i o, ops[i]? = some o → D i = true → ∀ e ∈ edgesO o, D e = true) → (∀ e ∈ edgesO o, D e = true) →
      OpStep P Y ops o (τ D) (τ fun j => D j || j == i) (Wh i) (fs.getD i ([], false)) := by
    intro D i o ho hDi hcl hready
    have hi := (Array.getElem?_eq_some_iff.1 ho).1
    have I := hinst i (Nat.zero_le _) hi
    -- before i: in D; behind i: not in D, where they meet
    have hmeet : ∀ j oj, ops[j]? = some oj → j ≠ i → (oi_meets : (o.apart ops oj = false ∨ heapApart (fs.getD i ([], false)) (fs.getD j ([], false)) = false ∨ heapApart (fs.getD j ([], false)) (fs.getD i ([], false)) = false)) → D j = decide (j < i) := by
      intro j oj hj hne hm
      by_cases hji : j < i
      · have hb : ((bitsO ops).getD i 0).testBit j = true := by
          cases hbb : ((bitsO ops).getD i 0).testBit j with
          | true => rfl
          | false =>
            obtain ⟨p1, p2⟩ := hpair i j o oj hji ho hj hbb
            rcases hm with hm | hm | hm
            · rw [p1] at hm; cases hm
            · rw [p2] at hm; cases hm
            · exfalso
              unfold heapApart at p2 hm
              simp only [Bool.or_eq_true, Bool.and_eq_true, Bool.not_eq_true', List.all_eq_true, Bool.or_eq_false_iff, Bool.and_eq_false_iff, Bool.not_eq_false'] at p2 hm
              rcases p2 with ⟨q1, q2⟩ | q
              · rw [q1, q2] at hm; simp at hm
              · obtain ⟨_, hm⟩ := hm
                rw [List.all_eq_false] at hm
                obtain ⟨x, hx, hx2⟩ := hm
                simp at hx2
                have := q x hx2
                simp at this
                exact this hx
        rw [bits_closed hcl hlt i o ho hready j hb]; simp [hji]
      · have hij : i < j := by omega
        cases hDj : D j with
        | false => simp [hji]
        | true =>
          have hb : ((bitsO ops).getD j 0).testBit i = true := by
            cases hbb : ((bitsO ops).getD j 0).testBit i with
            | true => rfl
            | false =>
              obtain ⟨p1, p2⟩ := hpair j i oj o hij hj ho hbb
              rcases hm with hm | hm | hm
              · rw [apart_symm p1] at hm; cases hm
              · exfalso
                unfold heapApart at p2 hm
                simp only [Bool.or_eq_true, Bool.and_eq_true, Bool.not_eq_true', List.all_eq_true, Bool.or_eq_false_iff, Bool.and_eq_false_iff, Bool.not_eq_false'] at p2 hm
                rcases p2 with ⟨q1, q2⟩ | q
                · rw [q1, q2] at hm; simp at hm
                · obtain ⟨_, hm⟩ := hm
                  rw [List.all_eq_false] at hm
                  obtain ⟨x, hx, hx2⟩ := hm
                  simp at hx2
                  have := q x hx2
                  simp at this
                  exact this hx
              · rw [p2] at hm; cases hm
          have := bits_closed hcl hlt j oj hj (hcl j oj hj hDj) i hb
          rw [hDi] at this; cases this
    have hops : ∀ j, j < ops.size → ∃ oj, ops[j]? = some oj := fun j hj => ⟨ops[j], Array.getElem?_eq_getElem hj⟩
    have htm : ∀ t ∈ o.looksAt ops, (τ D).tmps[t]? = (st i).tmps[t]? := by
      intro t ht
      rw [hsti i (by omega)]
      show (runW Wt D ops.size σ.tmps)[t]? = (runW Wt (fun _ => true) i σ.tmps)[t]?
      have hcg : ∀ j, j < ops.size → (∃ v, (t, v) ∈ Wt j) → D j = decide (j < i) := by
        intro j hj hjv
        obtain ⟨v, hv⟩ := hjv
        obtain ⟨oj, hoj⟩ := hops j hj
        have hd := (hinst j (Nat.zero_le _) hj).dst oj hoj t v hv
        by_cases e : j = i
        · subst e; simp [hDi]
        · refine hmeet j oj hoj e (.inl ?_)
          cases hap : o.apart ops oj with
          | false => rfl
          | true => exact absurd ht ((Oper.apart_spec hap).2.2 t hd)
      rw [runW_congr (p' := fun j => decide (j < i)) ops.size hcg]
      rw [runW_none (k := i) _ (by omega) (fun j a b => by simp; omega)]
      exact runW_congr i fun j hj _ => by simp [hj]
    have hhp : ∀ x ∈ (fs.getD i ([], false)).1, (τ D).heap x = (st i).heap x := by
      intro x hx
      rw [hsti i (by omega)]
      show runH Wh D ops.size σ.heap x = runH Wh (fun _ => true) i σ.heap x
      have hcg : ∀ j, j < ops.size → (∃ v, (x, v) ∈ Wh j) → D j = decide (j < i) := by
        intro j hj hjv
        obtain ⟨v, hv⟩ := hjv
        obtain ⟨oj, hoj⟩ := hops j hj
        obtain ⟨f1, f2⟩ := (hinst j (Nat.zero_le _) hj).foot x v hv
        by_cases e : j = i
        · subst e; simp [hDi]
        · refine hmeet j oj hoj e (.inr (.inl ?_))
          unfold heapApart
          rw [f2]
          simp only [Bool.not_true, Bool.and_false, Bool.false_or]
          rw [List.all_eq_false]
          exact ⟨x, hx, by simpa using f1⟩
      rw [runH_congr (p' := fun j => decide (j < i)) ops.size hcg]
      rw [runH_none (k := i) _ (by omega) (fun j a b => by simp; omega)]
      exact runH_congr i fun j hj _ => by simp [hj]
    have hstep := I.same o (τ D) ho htm hhp
    have e1 : runW Wt (fun j => D j || j == i) ops.size σ.tmps = wrL (runW Wt D ops.size σ.tmps) (Wt i) := by
      refine runW_insert hi hDi fun j hij hj hDj x v v' hv hv' => ?_
      obtain ⟨oj, hoj⟩ := hops j hj
      have d1 := I.dst o ho x v hv
      have d2 := (hinst j (Nat.zero_le _) hj).dst oj hoj x v' hv'
      have := hmeet j oj hoj (by omega) (.inl (by
        cases hap : o.apart ops oj with
        | false => rfl
        | true => exact absurd d2 ((Oper.apart_spec hap).2.1 x d1)))
      rw [hDj] at this
      exact absurd (show j < i by simpa using this.symm) (by omega)
    have e2 : runH Wh (fun j => D j || j == i) ops.size σ.heap = wr (runH Wh D ops.size σ.heap) (Wh i) := by
      refine runH_insert hi hDi fun j hij hj hDj x v v' hv hv' => ?_
      obtain ⟨oj, hoj⟩ := hops j hj
      obtain ⟨f1, f2⟩ := I.foot x v hv
      obtain ⟨g1, g2⟩ := (hinst j (Nat.zero_le _) hj).foot x v' hv'
      have := hmeet j oj hoj (by omega) (.inr (.inl (by
        unfold heapApart
        rw [f2, g2]
        simp only [Bool.not_true, Bool.and_false, Bool.false_or]
        rw [List.all_eq_false]
        exact ⟨x, f1, by simpa using g1⟩)))
      rw [hDj] at this
      exact absurd (show j < i by simpa using this.symm) (by omega)
    show OpStep P Y ops o (τ D) ⟨runW Wt (fun j => D j || j == i) ops.size σ.tmps, runH Wh (fun j => D j || j == i) ops.size σ.heap⟩ (Wh i) (fs.getD i ([], false))
    rw [e1, e2]
    exact hstep
  -- the walk over the sets
  have walk : ∀ (fuel : Nat) (listed : Array Bool) (a : Act) (w : World), listed.size = ops.size → (listed.toList.filter (!·)).length ≤ fuel →
      (∀ i o, ops[i]? = some o → listed.getD i false = true → ∀ e ∈ edgesO o, listed.getD e false = true) → R P C J (τ fun j => listed.getD j false) a w → wpAnyIn (Fr r) n P .any ops Q fuel listed a w := by
    have hall : ∀ (listed : Array Bool) (a : Act) (w : World), listed.size = ops.size → (∀ i, i < ops.size → listed.getD i false = true) → R P C J (τ fun j => listed.getD j false) a w → Q .normal a w := by
      intro listed a w hsz hl hR'
      refine hK _ a w hKn ?_
      have e : τ (fun j => listed.getD j false) = st ops.size := by
        rw [hsti _ (Nat.le_refl _)]
        show (⟨_, _⟩ : PS) = ⟨_, _⟩
        have t1 : runW Wt (fun j => listed.getD j false) ops.size σ.tmps = runW Wt (fun _ => true) ops.size σ.tmps := by
          apply List.ext_getElem?; intro x
          exact runW_congr _ fun j hj _ => hl j hj
        have t2 : runH Wh (fun j => listed.getD j false) ops.size σ.heap = runH Wh (fun _ => true) ops.size σ.heap := by
          funext x
          exact runH_congr _ fun j hj _ => hl j hj
        rw [t1, t2]
      rw [← e]; exact hR'
    have hready : ∀ (listed : Array Bool), listed.size = ops.size → Region.ready .any ops listed = [] → ∀ i, i < ops.size → listed.getD i false = true := by
      intro listed hsz hr i
      induction i using Nat.strongRecOn with
      | _ i ih =>
        intro hi
        cases hli : listed.getD i false with
        | true => rfl
        | false =>
          exfalso
          have hmem : i ∈ Region.ready .any ops listed := by
            unfold Region.ready
            rw [List.mem_filter]
            refine ⟨List.mem_range.2 hi, ?_⟩
            have ho : ops[i]? = some ops[i] := Array.getElem?_eq_getElem hi
            have hli' : listed.getD i true = false := by
              have : i < listed.size := by omega
              simp [Array.getD, this] at hli ⊢; exact hli
            rw [hli', ho]
            simp only [Bool.not_false, Option.map_some, Option.getD_some, Bool.true_and]
            rw [← Array.all_toList, List.all_eq_true]
            intro e he
            cases hbe : Region.binds .any e with
            | false => rfl
            | true =>
              have hmem : e.on ∈ edgesO ops[i] := List.mem_map.2 ⟨e, List.mem_filter.2 ⟨he, hbe⟩, rfl⟩
              have hlt' := hlt i _ ho e.on hmem
              simp [ih e.on hlt' (by omega)]
          rw [hr] at hmem; cases hmem
    intro fuel
    induction fuel with
    | zero =>
      intro listed a w hsz hcnt hcl hR'
      have hl : ∀ i, i < ops.size → listed.getD i false = true := by
        intro i hi
        have hlt : i < listed.size := by omega
        have h0 : (listed.toList.filter (!·)) = [] := List.eq_nil_of_length_eq_zero (by omega)
        rw [List.filter_eq_nil_iff] at h0
        have := h0 listed[i] (by simp)
        simp [Array.getD, hlt]; simpa using this
      refine ⟨?_, hall listed a w hsz hl hR'⟩
      unfold Region.ready
      rw [List.filter_eq_nil_iff]
      intro i hi
      have hi' := List.mem_range.1 hi
      have := hl i hi'
      have hlt : i < listed.size := by omega
      simp [Array.getD, hlt] at this ⊢
      simp [this]
    | succ fuel ih =>
      intro listed a w hsz hcnt hcl hR'
      refine ⟨fun hr => hall listed a w hsz (hready listed hsz hr) hR', fun i hi => ?_⟩
      unfold Region.ready at hi
      rw [List.mem_filter] at hi
      obtain ⟨hi, hc⟩ := hi
      have hi := List.mem_range.1 hi
      have ho : ops[i]? = some ops[i] := Array.getElem?_eq_getElem hi
      rw [ho] at hc
      simp only [Option.map_some, Option.getD_some, Bool.and_eq_true, Bool.not_eq_true'] at hc
      obtain ⟨hli, hedge⟩ := hc
      have hlt' : i < listed.size := by omega
      have hDi : listed.getD i false = false := by simp [Array.getD, hlt'] at hli ⊢; exact hli
      have hrdy : ∀ e ∈ edgesO ops[i], listed.getD e false = true := by
        intro e he
        obtain ⟨ed, h1, rfl⟩ := List.mem_map.1 he
        obtain ⟨h2, h3⟩ := List.mem_filter.1 h1
        rw [← Array.all_toList, List.all_eq_true] at hedge
        have := hedge ed h2
        rw [h3] at this
        simpa using this
      have hst' := key (fun j => listed.getD j false) i ops[i] ho hDi hcl hrdy
      have hset : ∀ j, (listed.setIfInBounds i true).getD j false = (listed.getD j false || j == i) := by
        intro j
        by_cases e : j = i
        · subst e; simp [hlt']
        · simp [Array.getElem?_setIfInBounds_ne (Ne.symm e), e]
      unfold wpOpIn
      rw [ho]
      refine step_sim hY hst hst' hR' fun a' w' hR2 => ih _ a' w' (by simpa using hsz) ?_ ?_ ?_
      · -- one fewer
        have e1 : (listed.setIfInBounds i true).toList = listed.toList.take i ++ true :: listed.toList.drop (i + 1) := by
          rw [Array.toList_setIfInBounds, List.set_eq_take_append_cons_drop, if_pos (by simpa using hlt')]
        have e2 : listed.toList = listed.toList.take i ++ false :: listed.toList.drop (i + 1) := by
          have hg : listed.toList[i]'(by simpa using hlt') = false := by simp [Array.getD, hlt'] at hDi; simpa using hDi
          rw [← hg, ← List.drop_eq_getElem_cons, List.take_append_drop]
        rw [e1]
        rw [e2] at hcnt
        simp only [List.filter_append, List.length_append, List.filter_cons, Bool.not_true, Bool.false_eq_true, if_false, Bool.not_false, if_true, List.length_cons] at hcnt ⊢
        omega
      · intro j oj hoj hlj e he
        rw [hset] at hlj ⊢
        simp only [Bool.or_eq_true, beq_iff_eq] at hlj ⊢
        rcases hlj with hlj | rfl
        · exact .inl (hcl j oj hoj hlj e he)
        · rw [ho] at hoj; cases hoj
          exact .inl (hrdy e he)
      · have e : (fun j => (listed.setIfInBounds i true).getD j false) = (fun j => listed.getD j false || j == i) := funext hset
        rw [e]; exact hR2
  refine walk ops.size _ a w (by simp) ?_ (fun i o ho hl => ?_) ?_
  · exact Nat.le_trans (List.length_filter_le _ _) (by simp)
  · simp [Array.getD] at hl
  · have e : τ (fun j => (Array.replicate ops.size false).getD j false) = σ := by
      have t : ∀ {α : Type} (Ws : Nat → List (Nat × α)) (l : List α), runW Ws (fun j => (Array.replicate ops.size false).getD j false) ops.size l = l := by
        intro α Ws l
        rw [runW_none (k := 0) _ (Nat.zero_le _) (fun j _ _ => by simp [Array.getD])]
        rfl
      have t' : runH Wh (fun j => (Array.replicate ops.size false).getD j false) ops.size σ.heap = σ.heap := by
        rw [runH_none (k := 0) _ (Nat.zero_le _) (fun j _ _ => by simp [Array.getD])]
        rfl
      show (⟨_, _⟩ : PS) = σ
      rw [t, t']
    rw [e]; exact hR

end Go.Pm
