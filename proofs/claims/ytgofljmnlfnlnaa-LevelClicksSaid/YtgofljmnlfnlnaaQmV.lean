/- The pure machine, part V: a walk, reckoned: regions, code, contracts. -/
import Derived.Test.YtgofljmnlfnlnaaQmW
namespace Go.Pm
open Go Go.RowKit

variable {P : Program}

/-- Is yield called? -/
def yldOf (op : Op) (ρ : Operand → PV) : Option (Nat × List Operand) :=
  match op with
  | .call { callee := .value g, args := args, .. } => match ρ g with
    | .yld l => some (l, args.toList)
    | _ => none
  | _ => none

/-- A call of yield, behind what it freezes. -/
def yldC (P : Program) (sp : Spec) (op : Op) (args : List Operand) (ρ : Operand → PV) (h : List PO) : Option (List TV × Wr × List Nat) :=
  match fzIds P sp op ρ h with
  | [] => (allO (args.map fun a => (ρ a).toT)).map fun as => (as, [], [])
  | id :: l => match freezeW (getL h) (id :: l) with
    | some Wf => if closedG (getL h) (id :: l) then (allO (args.map fun a => (seenF (wr (getL h) Wf) (id :: l) ρ a).toT)).map fun as => (as, Wf, id :: l) else none
    | none => none
/-- One operation of a region, reckoned. -/
noncomputable def stepC (P : Program) (sp : Spec) (Y : YS) (n : Nat) (ops : Array Oper) (o : Oper) (s : CS) (K : CS → Foot → Prop) : Prop :=
  match guardC ops o s with
  | none => False
  | some b =>
    match yldOf o.op (seenBy o b s.eval) with
    | some (l, args) => match yldC P sp o.op args (seenBy o b s.eval) s.heap, getL s.heap 0 with
      | some (as, Wf, ids), .cnt k => b = true ∧ l = Y.l ∧ k < Y.m ∧ Y.xs[k]? = some as ∧ ids.contains 0 = false ∧ K (s.put n o.dst (condW o b (.t (.bool (!(Y.stop && k + 1 == Y.m))))) (setL (wrC s.heap Wf) 0 (.cnt (k + 1)))) (ids ++ [0], true)
      | _, _ => False
    | none => match valC P sp o.op (seenBy o b s.eval) s.heap with
      | some (v, W, f) => (b = false → W = []) ∧ K (s.put n o.dst (condW o b v) (wrC s.heap W)) f
      | none => b = false ∧ K (s.put n o.dst (condW o b .junk) s.heap) ([], false)

noncomputable def popsC (P : Program) (sp : Spec) (Y : YS) (n : Nat) (ops : Array Oper) : List Oper → CS → List Foot → (CS → List Foot → Prop) → Prop
  | [], s, fs, K => K s fs
  | o :: l, s, fs, K => stepC P sp Y n ops o s fun s' f => popsC P sp Y n ops l s' (fs ++ [f]) K

theorem stepC_step {sp : Spec} (hsp : SpecOk P sp) {Y : YS} {n : Nat} {ops : Array Oper} {i : Nat} {o : Oper} {s : CS} {K : CS → Foot → Prop} (hk : keysOk n s.env = true) (ho : ops[i]? = some o) (h : stepC P sp Y n ops o s K) :
    ∃ s' f, StepAt P Y ops i (toPS n s) (toPS n s') f ∧ keysOk n s'.env = true ∧ K s' f := by
  have hev : (toPS n s).eval = s.eval := funext (toPS_eval hk)
  unfold stepC at h
  split at h
  · exact h.elim
  · rename_i b hg0
    have hg := guardC_some hk hg0
    split at h
    · rename_i l args hy
      split at h
      · rename_i as Wf ids k hyc hcnt
        obtain ⟨rfl, rfl, h1, h2, h0, h3⟩ := h
        refine ⟨_, _, ⟨o, Wf ++ [(0, .cnt (k + 1))], ho, true, .t (.bool (!(Y.stop && k + 1 == Y.m))), 0, hg, fun _ => ?_, fun e => (by cases e), ?_⟩, keys_put hk _ _ _, h3⟩
        · rw [hev]
          unfold yldOf at hy
          split at hy
          · rename_i g args' ts hop
            split at hy
            · rename_i l' hgl
              simp only [Option.some.injEq, Prod.mk.injEq] at hy
              obtain ⟨rfl, rfl⟩ := hy
              unfold yldC at hyc
              split at hyc
              · simp only [Option.map_eq_some_iff] at hyc
                obtain ⟨as', has, he⟩ := hyc
                simp only [Prod.mk.injEq] at he
                obtain ⟨rfl, rfl, rfl⟩ := he
                exact .inl (.inr (.inr ⟨_, hop, .inr ⟨g, as', k, rfl, hgl, has, hcnt, h1, h2, rfl, rfl, rfl⟩⟩))
              · rename_i id l _
                split at hyc
                · rename_i Wf' hw
                  split at hyc
                  · rename_i hcl
                    simp only [Option.map_eq_some_iff] at hyc
                    obtain ⟨as', has, he⟩ := hyc
                    simp only [Prod.mk.injEq] at he
                    obtain ⟨rfl, rfl, rfl⟩ := he
                    refine .inr ⟨id :: l, Wf', [(0, .cnt (k + 1))], ([0], true), hcl, hw, .inr (.inr ⟨_, hop, .inr ⟨g, as', k, rfl, ?_, has, ?_, h1, h2, rfl, rfl, rfl⟩⟩), rfl, rfl⟩
                    · unfold seenF
                      rw [hgl]
                      simp [idsG, thawP, thawC, PV.toT]
                    · rw [wr_out _ _ _ fun o ho => ?_]
                      · exact hcnt
                      · have hc : ∀ i ∈ id :: l, ∀ v cells e sz, getL s.heap i = .grow v cells e sz → ∀ c ∈ cells, ∀ j ∈ idsG c, j ∈ id :: l := by
                          intro i hid v cells e sz hh c hcc j hj
                          unfold closedG at hcl
                          rw [List.all_eq_true] at hcl
                          have := hcl i hid
                          rw [hh] at this
                          simp only [List.all_eq_true, List.mem_flatMap, List.contains_eq_mem, decide_eq_true_eq] at this
                          exact this j ⟨c, hcc, hj⟩
                        have := ((freezeW_loc (id :: l) (id :: l) (fun _ h => h) (fun _ _ => rfl) hc hw).2 0 o ho).1
                        simp only [List.contains_eq_mem, decide_eq_false_iff_not] at h0
                        exact h0 this
                  · cases hyc
                · cases hyc
            · cases hy
          · cases hy
        · rw [← toPS_put]; congr 1
          rw [getL_set, getL_wr, wr_append]; rfl
      · exact h.elim
    · split at h
      · rename_i v W f hv
        obtain ⟨h1, h2⟩ := h
        obtain ⟨rid, hval⟩ := valC_val (Y := Y) hsp hv
        refine ⟨_, f, ⟨o, W, ho, b, v, rid, hg, fun _ => by rw [hev]; exact hval, h1, ?_⟩, keys_put hk _ _ _, h2⟩
        rw [← toPS_put, getL_wr]; rfl
      · obtain ⟨rfl, h2⟩ := h
        refine ⟨_, _, ⟨o, [], ho, false, .junk, 0, hg, fun e => (by cases e), fun _ => rfl, ?_⟩, keys_put hk _ _ _, h2⟩
        rw [← toPS_put]; rfl

theorem popsC_pops {sp : Spec} (hsp : SpecOk P sp) {Y : YS} {n : Nat} {ops : Array Oper} {K : CS → List Foot → Prop} : ∀ (l : List Oper) (i : Nat) (s : CS) (fs : List Foot), keysOk n s.env = true → l = ops.toList.drop i →
    popsC P sp Y n ops l s fs K → pops P Y ops (List.range' i l.length) (toPS n s) fs fun σ fs => ∃ s', σ = toPS n s' ∧ keysOk n s'.env = true ∧ K s' fs
  | [], i, s, fs, hk, _, h => ⟨s, rfl, hk, h⟩
  | o :: l, i, s, fs, hk, hl, h => by
    have hi : i < ops.toList.length := by
      rcases Nat.lt_or_ge i ops.toList.length with h' | h'
      · exact h'
      · rw [List.drop_eq_nil_of_le h'] at hl; cases hl
    rw [List.drop_eq_getElem_cons hi] at hl
    have ho : ops[i]? = some o := by
      rw [← Array.getElem?_toList, List.getElem?_eq_getElem hi]; injection hl with h1 h2; rw [h1]
    have hl' : l = ops.toList.drop (i + 1) := by injection hl
    obtain ⟨s', f, hs, hk', hkk⟩ := stepC_step hsp hk ho h
    simp only [List.length_cons, List.range'_succ]
    exact ⟨_, f, hs, popsC_pops hsp l (i + 1) s' _ hk' hl' hkk⟩

def seqC (K : CS → Prop) (Q : Exit → CS → Prop) : Exit → CS → Prop
  | .normal, s => K s
  | e, s => Q e s
def blockC (id : Nat) (Q : Exit → CS → Prop) : Exit → CS → Prop
  | .exit id', s => if id' = id then Q .normal s else Q (.exit id') s
  | e, s => Q e s
def scopeC (Q : Exit → CS → Prop) : Exit → CS → Prop
  | .goto _, _ => False
  | e, s => Q e s
def setEnv (T : List (Nat × PV)) (ps : List Tmp) (xs : List TV) : List (Nat × PV) := (ps.zip xs).foldl (fun t p => (p.1, .t p.2) :: t) T

def condK (v : PV) (A B : Prop) : Prop := match v with
  | .t (.bool t) => (t = true → A) ∧ (t = false → B)
  | _ => False
/-- A walk, reckoned as far as it goes. -/
noncomputable def pwpC (P : Program) (sp : Spec) (X : PX) (n : Nat) : Code → (Exit → CS → Prop) → CS → Prop
  | .skip, Q => fun s => Q .normal s
  | .label _, Q => fun s => Q .normal s
  | .region _ ops draw, Q => fun s => popsC P sp X.Y n ops ops.toList s [] fun s' fs => (draw = true → drawOk ops fs = true) ∧ Q .normal s'
  | .seq a b, Q => pwpC P sp X n a (seqC (pwpC P sp X n b Q) Q)
  | .cond c a b, Q => fun s => condK (s.eval c) (pwpC P sp X n a Q s) (pwpC P sp X n b Q s)
  | .block id c, Q => pwpC P sp X n c (blockC id Q)
  | .scope c, Q => pwpC P sp X n c (scopeC Q)
  | .loop c, Q => fun s => ∃ (A : Type) (S : A → CS) (μ : A → Nat) (x0 : A), weakW X.k s (S x0) ∧ (∀ x, keysOk n (S x).env = true) ∧
      ∀ x, pwpC P sp X n c (seqC (fun s' => ∃ x', weakW X.k s' (S x') ∧ μ x' < μ x) Q) (S x)
  | .exit id, Q => fun s => Q (.exit id) s
  | .ret, Q => fun s => Q .ret s
  | .rangeFunc g ps assign body, Q => fun s => X.inr = false ∧ ∃ (f : FuncId) (pre caps : List TV) (xs : List (List TV)) (T : List (Nat × PV)) (S : Nat → List PO) (k m : Nat) (stop : Bool) (e : Exit),
      weakW X.k s ⟨T, S 0⟩ ∧ keysOk n T = true ∧ (ps.toList.all (· < n)) = true ∧ (⟨T, S 0⟩ : CS).eval g = .t (.fn f pre caps) ∧ Iter P f pre caps xs ∧ (∀ x ∈ xs, x.length = ps.size) ∧ m ≤ xs.length ∧ (stop = false → m = xs.length ∧ e = .normal) ∧ (stop = true → 0 < m ∧ isJump e = true) ∧
      (∀ i, (S i).length ≤ k) ∧ (∀ i, cntOf (getL (S i)) = cntOf (getL (S 0))) ∧
      (∀ i x, i < m → xs[i]? = some x → pwpC P sp ⟨noY, k, true⟩ n assign (seqC (pwpC P sp ⟨noY, k, true⟩ n body fun e' s' => (e' = if stop = true ∧ i + 1 = m then e else .normal) ∧ weakW k ⟨[], s'.heap⟩ ⟨[], S (i + 1)⟩) fun _ _ => False) ⟨setEnv T ps.toList x, S i⟩) ∧
      Q e ⟨T, S m⟩
  | _, _ => fun _ => False

def liftC (n : Nat) (Q : Exit → CS → Prop) : Exit → PS → Prop := fun e σ => ∃ s, σ = toPS n s ∧ keysOk n s.env = true ∧ Q e s

theorem setEnv_ok {n : Nat} : ∀ (ps : List Tmp) (xs : List TV) (T : List (Nat × PV)), keysOk n T = true → ps.all (· < n) = true → keysOk n (setEnv T ps xs) = true
  | [], xs, T, h, _ => by simpa [setEnv] using h
  | p :: ps, [], T, h, _ => by simpa [setEnv] using h
  | p :: ps, x :: xs, T, h, hp => by
    simp only [List.all_cons, Bool.and_eq_true, decide_eq_true_eq] at hp
    exact setEnv_ok ps xs ((p, .t x) :: T) (by simp only [keysOk, List.all_cons, Bool.and_eq_true, decide_eq_true_eq]; exact ⟨hp.1, h⟩) hp.2
theorem setEnv_tmps {n : Nat} (hh : List PO) : ∀ (ps : List Tmp) (xs : List TV) (T : List (Nat × PV)), ps.all (· < n) = true → (toPS n ⟨setEnv T ps xs, hh⟩) = ⟨setPs (toPS n ⟨T, hh⟩).tmps ps xs, getL hh⟩
  | [], xs, T, _ => by simp [setEnv, setPs, toPS]
  | p :: ps, [], T, _ => by simp [setEnv, setPs, toPS]
  | p :: ps, x :: xs, T, hp => by
    simp only [List.all_cons, Bool.and_eq_true, decide_eq_true_eq] at hp
    have ih := setEnv_tmps hh ps xs ((p, .t x) :: T) hp.2
    have e := toPS_put (n := n) (s := ⟨T, hh⟩) (some p) (.t x) hh
    have e2 : (CS.put n ⟨T, hh⟩ (some p) (.t x) hh) = ⟨(p, .t x) :: T, hh⟩ := by simp [CS.put, hp.1]
    rw [e2] at e
    have e3 : (toPS n ⟨(p, .t x) :: T, hh⟩).tmps = (toPS n ⟨T, hh⟩).tmps.set p (.t x) := by rw [← e]; rfl
    show toPS n ⟨setEnv ((p, .t x) :: T) ps xs, hh⟩ = ⟨setPs ((toPS n ⟨T, hh⟩).tmps.set p (.t x)) ps xs, getL hh⟩
    rw [ih, e3]

theorem pwpC_pwp {sp : Spec} (hsp : SpecOk P sp) {n : Nat} : ∀ (c : Code) (X : PX) (Q : Exit → CS → Prop) (s : CS), keysOk n s.env = true → pwpC P sp X n c Q s → pwp P X c (liftC n Q) (toPS n s)
  | .skip, _, _, s, hk, h => ⟨s, rfl, hk, h⟩
  | .label _, _, _, s, hk, h => ⟨s, rfl, hk, h⟩
  | .region _ ops draw, X, Q, s, hk, h => by
    have := popsC_pops (P := P) hsp (n := n) (ops := ops) ops.toList 0 s [] hk (by simp) h
    show pregion P X.Y ops draw (liftC n Q .normal) (toPS n s)
    unfold pregion
    rw [List.range_eq_range']
    refine pops_mono _ (fun σ fs hs => ?_) (by simpa using this)
    obtain ⟨s', e, hk', h1, h2⟩ := hs
    exact ⟨h1, s', e, hk', h2⟩
  | .seq a b, X, Q, s, hk, h => pwp_mono a (fun e σ hs => by
      obtain ⟨s', rfl, hk', hq⟩ := hs
      cases e with
      | normal => exact pwpC_pwp hsp b X Q s' hk' hq
      | _ => exact ⟨s', rfl, hk', hq⟩) _ (pwpC_pwp hsp a X _ s hk h)
  | .cond c a b, X, Q, s, hk, h => by
    unfold pwpC condK at h
    split at h
    · rename_i t ht
      exact ⟨t, by rw [toPS_eval hk]; exact ht, fun e => pwpC_pwp hsp a X Q s hk (h.1 e), fun e => pwpC_pwp hsp b X Q s hk (h.2 e)⟩
    · exact h.elim
  | .block id c, X, Q, s, hk, h => pwp_mono c (fun e σ hs => by
      obtain ⟨s', rfl, hk', hq⟩ := hs
      cases e with
      | exit id' =>
        simp only [blockC] at hq
        simp only [blockQ]
        split
        · rename_i hi; rw [if_pos hi] at hq; exact ⟨s', rfl, hk', hq⟩
        · rename_i hi; rw [if_neg hi] at hq; exact ⟨s', rfl, hk', hq⟩
      | _ => exact ⟨s', rfl, hk', hq⟩) _ (pwpC_pwp hsp c X _ s hk h)
  | .loop c, X, Q, s, hk, h => by
    obtain ⟨A, S, μ, x0, h0, hS, h1⟩ := h
    refine ⟨A, fun x => toPS n (S x), μ, x0, weakW_weak h0, fun x => pwp_mono c (fun e σ hs => ?_) _ (pwpC_pwp hsp c X _ (S x) (hS x) (h1 x))⟩
    obtain ⟨s', rfl, hk', hq⟩ := hs
    cases e with
    | normal => obtain ⟨x', h2, h3⟩ := hq; exact ⟨x', weakW_weak h2, h3⟩
    | _ => exact ⟨s', rfl, hk', hq⟩
  | .exit id, _, _, s, hk, h => ⟨s, rfl, hk, h⟩
  | .ret, _, _, s, hk, h => ⟨s, rfl, hk, h⟩
  | .rangeFunc g ps assign body, X, Q, s, hk, h => by
    obtain ⟨hin, f, pre, caps, xs, T, S, k, m, stop, e, h1, hT, hps, h2, h3, h4, h5, h6, h7, h8, h9, h10, h11⟩ := h
    refine ⟨hin, f, pre, caps, xs, (toPS n ⟨T, S 0⟩).tmps, fun i => getL (S i), k, m, stop, e, weakW_weak h1, ?_, h3, h4, h5, h6, h7, fun i id hid => getL_out (Nat.le_trans (h8 i) hid), h9, fun i x hi hx => ?_, ⟨⟨T, S m⟩, rfl, hT, h11⟩⟩
    · rw [← h2]; exact toPS_eval (s := ⟨T, S 0⟩) hT g
    · have ha := pwpC_pwp hsp assign ⟨noY, k, true⟩ _ _ (setEnv_ok ps.toList x T hT hps) (h10 i x hi hx)
      rw [setEnv_tmps (S i) ps.toList x T hps] at ha
      refine pwp_mono assign (fun e σ hs => ?_) _ ha
      obtain ⟨s', rfl, hk', hq⟩ := hs
      cases e with
      | normal =>
        refine pwp_mono body (fun e σ hs => ?_) _ (pwpC_pwp hsp body ⟨noY, k, true⟩ _ s' hk' hq)
        obtain ⟨s2, rfl, hk2, hq2⟩ := hs
        refine ⟨hq2.1, ?_⟩
        have := weakW_weak (P := P) (n := 0) hq2.2
        exact this
      | _ => exact hq.elim
  | .scope c, X, Q, s, hk, h => pwp_mono c (fun e σ hs => by
      obtain ⟨s', rfl, hk', hq⟩ := hs
      cases e with
      | goto l => exact hq
      | _ => exact ⟨s', rfl, hk', hq⟩) _ (pwpC_pwp hsp c X _ s hk h)
  | .goto .., _, _, _, _, h => h.elim
  | .refuse .., _, _, _, _, h => h.elim

end Go.Pm
