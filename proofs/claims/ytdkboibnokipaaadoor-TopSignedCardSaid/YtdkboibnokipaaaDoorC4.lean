/- What the claim leans on, text 4. -/
import Derived.Test.YtdkboibnokipaaaDoorC3
set_option linter.unusedSimpArgs false
set_option linter.unusedVariables false

/- Part QmEv. -/
namespace Go.Pm
open Go Go.RowKit

variable {P : Program}

def getB : List (Nat × PV) → Nat → PV
 | [], _ => .junk
 | (d, v) :: l, t => bif Nat.beq d t then v else getB l t
theorem getB_eq : ∀ (l : List (Nat × PV)) (t : Nat), getB l t = getA l t
 | [], _ => rfl
 | (d, v) :: l, t => by
  unfold getB getA
  rw [getB_eq l t]
  by_cases h : d = t
  ·subst h; simp
  ·rw [if_neg h]; have : Nat.beq d t = false := by cases hb : Nat.beq d t with
   | true => exact (h (Nat.eq_of_beq_eq_true hb)).elim
   | false => rfl
   rw [this]; rfl
def evalB (s : CS) : Operand → PV
 | .tmp t => getB s.env t
 | .const v => constP v
 | .func f => .t (.fn f [] [])
 | .global g => globP g
theorem evalB_eq (s : CS) : evalB s = s.eval := by
 funext x; cases x <;> first | rfl | exact getB_eq _ _

def dedE : List (Nat × PV) → List Nat → List (Nat × PV)
 | [], _ => []
 | (d, v) :: l, seen => bif seen.any (Nat.beq d) then dedE l seen else (d, v) :: dedE l (d :: seen)
theorem dedE_get : ∀ (l : List (Nat × PV)) (seen : List Nat) (t : Nat), t ∉ seen → getA (dedE l seen) t = getA l t
 | [], _, _, _ => rfl
 | (d, v) :: l, seen, t, h => by
  unfold dedE
  cases hd : seen.any (Nat.beq d) with
  | true =>
   have hm : d ∈ seen := by
    rw [List.any_eq_true] at hd
    obtain ⟨x, h1, h2⟩ := hd
    have : d = x := by simpa using h2
    rw [this]; exact h1
   have hne : d ≠ t := fun e => h (e ▸ hm)
   simp only [cond_true]
   rw [dedE_get l seen t h]
   show _ = if d = t then v else getA l t
   rw [if_neg hne]
  | false =>
   simp only [cond_false]
   show (if d = t then v else getA (dedE l (d :: seen)) t) = if d = t then v else getA l t
   by_cases e : d = t
   ·rw [if_pos e, if_pos e]
   ·rw [if_neg e, if_neg e]
    exact dedE_get l (d :: seen) t (by simp only [List.mem_cons, not_or]; exact ⟨fun h' => e h'.symm, h⟩)
theorem dedE_keys {n : Nat} : ∀ (l : List (Nat × PV)) (seen : List Nat), keysOk n l = true → keysOk n (dedE l seen) = true
 | [], _, _ => rfl
 | (d, v) :: l, seen, h => by
  simp only [keysOk, List.all_cons, Bool.and_eq_true, decide_eq_true_eq] at h
  unfold dedE
  cases seen.any (Nat.beq d) with
  | true => exact dedE_keys l seen (by simpa [keysOk] using h.2)
  | false =>
   simp only [cond_false, keysOk, List.all_cons, Bool.and_eq_true, decide_eq_true_eq]
   exact ⟨h.1, by have := dedE_keys l (d :: seen) (by simpa [keysOk] using h.2); simpa [keysOk] using this⟩
def comp (s : CS) : CS := { env := dedE s.env [], heap := s.heap }
theorem comp_ps {n : Nat} (s : CS) : toPS n (comp s) = toPS n s := by
 unfold toPS comp
 simp only [PS.mk.injEq, and_true]
 exact List.map_congr_left fun t _ => dedE_get s.env [] t (by simp)

noncomputable def stepE (P : Program) (sp : Spec) (Y : YS) (n : Nat) (ops : Array Oper) (o : Oper) (s : CS) : Option (CS × Foot) :=
 match guardC ops o s with
 | none => none
 | some b => bif sp.gd && !b then some (s.put n o.dst (condW o b .junk) s.heap, ([], false)) else match yldB b o.op (seenBy o b (evalB s)) with
  | some _ => none
  | none => match valY P sp Y o.op (seenBy o b (evalB s)) s.heap with
   | some (v, W, f) => bif b || W.isEmpty then some (s.put n o.dst (condW o b v) (wrC s.heap W), f) else none
   | none => bif b then none else some (s.put n o.dst (condW o b .junk) s.heap, ([], false))
theorem stepE_C {sp : Spec} {Y : YS} {n : Nat} {ops : Array Oper} {o : Oper} {s s' : CS} {f : Foot} {K : CS → Foot → Prop} {Z : Value → CS → Prop} (h : stepE P sp Y n ops o s = some (s', f)) (hK : K s' f) : stepC P sp Y n ops o s K Z := by
 unfold stepE at h
 rw [evalB_eq] at h
 unfold stepC
 split at h
 ·cases h
 ·rename_i b hb
  rw [hb]; simp only
  cases hgd : (sp.gd && !b) with
  | true =>
   rw [hgd] at h
   simp only [cond_true, Option.some.injEq, Prod.mk.injEq] at h
   obtain ⟨rfl, rfl⟩ := h
   exact hK
  | false =>
  rw [hgd] at h
  simp only [cond_false] at h ⊢
  split at h
  ·cases h
  ·rename_i hy
   split at h
   ·rename_i v W f' hv
    cases hbw : (b || W.isEmpty) with
    | false => rw [hbw] at h; cases h
    | true =>
     rw [hbw] at h
     simp only [cond_true, Option.some.injEq, Prod.mk.injEq] at h
     obtain ⟨rfl, rfl⟩ := h
     simp only [hy, hv]
     refine ⟨fun e => ?_, hK⟩
     subst e
     simpa using hbw
   ·rename_i hv
    cases b with
    | true => cases h
    | false =>
     simp only [cond_false, Option.some.injEq, Prod.mk.injEq] at h
     obtain ⟨rfl, rfl⟩ := h
     simp only [hy, hv]
     cases panC P sp o.op (seenBy o false s.eval) s.heap with
     | none => exact ⟨trivial, hK⟩
     | some r => exact ⟨fun e => (by cases e), fun _ => hK⟩
noncomputable def popsE (P : Program) (sp : Spec) (Y : YS) (n : Nat) (ops : Array Oper) : List Oper → CS → List Foot → Option (CS × List Foot)
 | [], s, fs => some (s, fs)
 | o :: l, s, fs => match stepE P sp Y n ops o s with
  | some (s', f) => popsE P sp Y n ops l s' (fs ++ [f])
  | none => none
theorem popsE_C {sp : Spec} {Y : YS} {n : Nat} {ops : Array Oper} {K : CS → List Foot → Prop} {Z : Value → CS → Prop} : ∀ (l : List Oper) (s : CS) (fs : List Foot) (s' : CS) (fs' : List Foot), popsE P sp Y n ops l s fs = some (s', fs') → K s' fs' → popsC P sp Y n ops l s fs K Z
 | [], s, fs, s', fs', h, hK => by unfold popsE at h; cases h; exact hK
 | o :: l, s, fs, s', fs', h, hK => by
  unfold popsE at h
  split at h
  ·rename_i s1 f h1
   exact stepE_C h1 (popsE_C l s1 _ s' fs' h hK)
  ·cases h

theorem stepE_key {sp : Spec} {Y : YS} {n : Nat} {ops : Array Oper} {o : Oper} {s s' : CS} {f : Foot} (hk : keysOk n s.env = true) (h : stepE P sp Y n ops o s = some (s', f)) : keysOk n s'.env = true := by
 unfold stepE at h
 split at h
 ·cases h
 ·rename_i b _
  cases hgd : (sp.gd && !b) with
  | true =>
   rw [hgd] at h
   simp only [cond_true, Option.some.injEq, Prod.mk.injEq] at h
   obtain ⟨rfl, _⟩ := h
   exact keys_put hk _ _ _
  | false =>
  rw [hgd] at h
  simp only [cond_false] at h
  split at h
  ·cases h
  ·split at h
   ·rename_i v W f' _
    cases hbw : (b || W.isEmpty) <;> rw [hbw] at h
    ·cases h
    ·simp only [cond_true, Option.some.injEq, Prod.mk.injEq] at h
     obtain ⟨rfl, _⟩ := h
     exact keys_put hk _ _ _
   ·cases b
    ·simp only [cond_false, Option.some.injEq, Prod.mk.injEq] at h
     obtain ⟨rfl, _⟩ := h
     exact keys_put hk _ _ _
    ·cases h
theorem popsE_key {sp : Spec} {Y : YS} {n : Nat} {ops : Array Oper} : ∀ (l : List Oper) (s : CS) (fs : List Foot) (s' : CS) (fs' : List Foot), keysOk n s.env = true → popsE P sp Y n ops l s fs = some (s', fs') → keysOk n s'.env = true
 | [], s, fs, s', fs', hk, h => by unfold popsE at h; cases h; exact hk
 | o :: l, s, fs, s', fs', hk, h => by
  unfold popsE at h
  split at h
  ·rename_i s1 f h1
   exact popsE_key l s1 _ s' fs' (stepE_key hk h1) h
  ·cases h

noncomputable def loopE (g : CS → Option (Exit × CS)) : Nat → CS → Option (Exit × CS)
 | 0, _ => none
 | k + 1, s => match g s with
  | some (.normal, s') => loopE g k (comp s')
  | r => r
noncomputable def ev (P : Program) (sp : Spec) (N n : Nat) : Code → CS → Option (Exit × CS)
 | .skip, s => some (.normal, s)
 | .label _, s => some (.normal, s)
 | .region _ ops draw, s => match popsE P sp noY n ops ops.toList s [] with
  | some (s', fs) => bif !draw || drawOk ops fs then some (.normal, s') else none
  | none => none
 | .seq a b, s => match ev P sp N n a s with
  | some (.normal, s') => ev P sp N n b s'
  | r => r
 | .cond c a b, s => match evalB s c with
  | .t (.bool true) => ev P sp N n a s
  | .t (.bool false) => ev P sp N n b s
  | _ => none
 | .block id c, s => match ev P sp N n c s with
  | some (.exit i, s') => bif Nat.beq i id then some (.normal, s') else some (.exit i, s')
  | r => r
 | .scope c, s => match ev P sp N n c s with
  | some (.goto _, _) => none
  | r => r
 | .loop c, s => loopE (ev P sp N n c) N s
 | .exit id, s => some (.exit id, s)
 | .ret, s => some (.ret, s)
 | _, _ => none

theorem loopE_ok {n : Nat} {X : PX} {c : Code} {g : CS → Option (Exit × CS)} (hg : ∀ s e s', keysOk n s.env = true → g s = some (e, s') → keysOk n s'.env = true ∧ ∀ Q : Exit → PS → Prop, Q e (toPS n s') → pwp P X c Q (toPS n s)) :
  ∀ (k : Nat) (s : CS) (e : Exit) (s' : CS), keysOk n s.env = true → loopE g k s = some (e, s') → keysOk n s'.env = true ∧ ∀ Q : Exit → PS → Prop, Q e (toPS n s') → pwp P X (.loop c) Q (toPS n s)
 | 0, s, e, s', hk, h => by unfold loopE at h; cases h
 | k + 1, s, e, s', hk, h => by
  unfold loopE at h
  split at h
  ·rename_i s1 h1
   obtain ⟨k1, q1⟩ := hg s _ s1 hk h1
   obtain ⟨k2, q2⟩ := loopE_ok hg k (comp s1) e s' (dedE_keys _ _ k1) h
   refine ⟨k2, fun Q hQ => ?_⟩
   obtain ⟨A, S, μ, x0, hw, hb⟩ := q2 Q hQ
   rw [comp_ps] at hw
   refine ⟨Option A, fun x => match x with | none => toPS n s | some x => S x, fun x => match x with | none => μ x0 + 1 | some x => μ x, none, Weak.refl _ _, fun x => ?_⟩
   cases x with
   | none => exact q1 _ ⟨some x0, hw, Nat.lt_succ_self _⟩
   | some x => exact pwp_mono c (fun e σ hs => by
     cases e with
     | normal => obtain ⟨x', h1, h2⟩ := hs; exact ⟨some x', h1, h2⟩
     | _ => exact hs) _ (hb x)
  ·rename_i hne
   obtain ⟨k1, q1⟩ := hg s e s' hk h
   refine ⟨k1, fun Q hQ => ?_⟩
   refine ⟨Unit, fun _ => toPS n s, fun _ => 0, (), Weak.refl _ _, fun _ => q1 _ ?_⟩
   cases e with
   | normal => exact (hne s' h).elim
   | _ => exact hQ
theorem ev_ok {sp : Spec} (hsp : SpecOk P sp) {N n k : Nat} {b0 : Bool} : ∀ (c : Code) (s : CS) (e : Exit) (s' : CS), keysOk n s.env = true → ev P sp N n c s = some (e, s') → keysOk n s'.env = true ∧ ∀ Q : Exit → PS → Prop, Q e (toPS n s') → pwp P ⟨noY, k, b0⟩ c Q (toPS n s)
 | .skip, s, e, s', hk, h => by unfold ev at h; cases h; exact ⟨hk, fun Q h => h⟩
 | .label _, s, e, s', hk, h => by unfold ev at h; cases h; exact ⟨hk, fun Q h => h⟩
 | .region _ ops draw, s, e, s', hk, h => by
  unfold ev at h
  split at h
  ·rename_i s1 fs h1
   cases hd : (!draw || drawOk ops fs) with
   | false => rw [hd] at h; cases h
   | true =>
    rw [hd] at h; cases h
    have hd' : draw = true → drawOk ops fs = true := fun e => by subst e; simpa using hd
    have hp := fun (Q : Exit → PS → Prop) (hQ : Q .normal (toPS n s')) => popsC_pops (P := P) hsp (n := n) (ops := ops) ops.toList 0 s [] hk (by simp) (popsE_C (K := fun s2 fs2 => s2 = s' ∧ fs2 = fs) (Z := fun _ _ => False) _ _ _ _ _ h1 ⟨rfl, rfl⟩)
    have hkey : keysOk n s'.env = true := popsE_key ops.toList s [] s' fs hk h1
    refine ⟨hkey, fun Q hQ => ?_⟩
    show popsX P noY ops (List.range ops.size) (toPS n s) [] _ _
    rw [List.range_eq_range']
    refine popsX_mono (fun σ fs' hs => ?_) (fun V σ hs => ?_) _ _ _ (by simpa using hp Q hQ)
    case refine_2 => obtain ⟨_, _, _, hz⟩ := hs
    obtain ⟨s2, rfl, _, rfl, rfl⟩ := hs
    exact ⟨hd', hQ⟩
  ·cases h
 | .seq a b, s, e, s', hk, h => by
  unfold ev at h
  split at h
  ·rename_i s1 h1
   obtain ⟨k1, q1⟩ := ev_ok hsp a s _ s1 hk h1
   obtain ⟨k2, q2⟩ := ev_ok hsp b s1 e s' k1 h
   exact ⟨k2, fun Q hQ => q1 _ (q2 Q hQ)⟩
  ·rename_i hne
   obtain ⟨k1, q1⟩ := ev_ok hsp a s e s' hk h
   refine ⟨k1, fun Q hQ => q1 _ ?_⟩
   cases e with
   | normal => exact (hne s' h).elim
   | _ => exact hQ
 | .cond c a b, s, e, s', hk, h => by
  unfold ev at h
  rw [evalB_eq] at h
  split at h
  ·rename_i hc
   obtain ⟨k1, q1⟩ := ev_ok hsp a s e s' hk h
   exact ⟨k1, fun Q hQ => ⟨true, by rw [toPS_eval hk]; exact hc, fun _ => q1 Q hQ, fun e => by cases e⟩⟩
  ·rename_i hc
   obtain ⟨k1, q1⟩ := ev_ok hsp b s e s' hk h
   exact ⟨k1, fun Q hQ => ⟨false, by rw [toPS_eval hk]; exact hc, fun e => (by cases e), fun _ => q1 Q hQ⟩⟩
  ·cases h
 | .block id c, s, e, s', hk, h => by
  unfold ev at h
  split at h
  ·rename_i i s1 h1
   obtain ⟨k1, q1⟩ := ev_ok hsp c s _ s1 hk h1
   cases hb : Nat.beq i id with
   | true =>
    rw [hb] at h; cases h
    have : i = id := Nat.eq_of_beq_eq_true hb
    exact ⟨k1, fun Q hQ => q1 _ (by show (if i = id then _ else _); rw [if_pos this]; exact hQ)⟩
   | false =>
    rw [hb] at h; cases h
    have : ¬ i = id := fun e => by rw [e] at hb; simp at hb
    exact ⟨k1, fun Q hQ => q1 _ (by show (if i = id then _ else _); rw [if_neg this]; exact hQ)⟩
  ·rename_i hne
   obtain ⟨k1, q1⟩ := ev_ok hsp c s e s' hk h
   refine ⟨k1, fun Q hQ => q1 _ ?_⟩
   cases e with
   | exit i => exact (hne i s' h).elim
   | _ => exact hQ
 | .scope c, s, e, s', hk, h => by
  unfold ev at h
  split at h
  ·cases h
  ·rename_i hne
   obtain ⟨k1, q1⟩ := ev_ok hsp c s e s' hk h
   refine ⟨k1, fun Q hQ => q1 _ ?_⟩
   cases e with
   | goto i => exact (hne i s' h).elim
   | _ => exact hQ
 | .loop c, s, e, s', hk, h => by
  unfold ev at h
  exact loopE_ok (fun s e s' hk h => ev_ok hsp c s e s' hk h) N s e s' hk h
 | .exit id, s, e, s', hk, h => by unfold ev at h; cases h; exact ⟨hk, fun Q h => h⟩
 | .ret, s, e, s', hk, h => by unfold ev at h; cases h; exact ⟨hk, fun Q h => h⟩
 | .rangeFunc .., s, e, s', hk, h => by unfold ev at h; cases h
 | .goto .., s, e, s', hk, h => by unfold ev at h; cases h
 | .refuse .., s, e, s', hk, h => by unfold ev at h; cases h

def endE : Exit → Bool
 | .normal | .ret => true
 | _ => false
noncomputable def evP (P : Program) (sp : Spec) (N : Nat) (f : FuncId) (al : List TV) : Option TV :=
 match P.funcs[f]? with
 | some fn => match fn.body with
  | some c => bif !(fn.name == "runtime.NumGoroutine") && Nat.ble al.length fn.ntmps then
    match ev P sp N fn.ntmps c { env := argsE (al.map .t) 0, heap := [] } with
    | some (e, s) => bif endE e && Nat.beq (cntL s.heap) 0 && Nat.beq (cntL (frzC P fn.results.toList s).heap) 0 then
      match resC P fn.results.toList (frzC P fn.results.toList s) with
      | some (.t r) => some r
      | _ => none
     else none
    | none => none
   else none
  | none => none
 | none => none
noncomputable def evH (P : Program) (sp : Spec) (N : Nat) (f : FuncId) (al : List PV) (hl : List PO) : Option (PV × List PO) :=
 match P.funcs[f]? with
 | some fn => match fn.body with
  | some c => bif !(fn.name == "runtime.NumGoroutine") && Nat.ble al.length fn.ntmps then
    match ev P sp N fn.ntmps c { env := argsE al 0, heap := hl } with
    | some (e, s) => bif endE e && Nat.ble hl.length s.heap.length && s.heap.all (PO.under s.heap.length) then
      match resC P fn.results.toList s with
      | some v => bif v.under s.heap.length then some (v, s.heap) else none
      | none => none
     else none
    | none => none
   else none
  | none => none
 | none => none

theorem pcalls_pwp (hm : P.follows .mixedOrders = true) {f : FuncId} {fn : Func} {c : Code} {args : List TV} {r : TV} (hf : P.funcs[f]? = some fn) (hb : fn.body = some c) (hname : (fn.name == "runtime.NumGoroutine") = false)
  (hn : args.length ≤ fn.ntmps) (hw : pwp P ⟨noY, 0, false⟩ c (liftC fn.ntmps (bodyC P fn.results.toList r)) (toPS fn.ntmps { env := argsE (args.map .t) 0, heap := [] })) : PCalls P f args r := by
 have h0 : noH = getL [] := by funext i; simp [noH, getL]
 refine hcalls_of (k := 0) hm hf hb hname (fun _ _ => rfl) (by rw [h0]; exact start_weak (by simpa using hn)) (pwp_mono c (fun e σ hs => ?_) _ hw)
 obtain ⟨s', rfl, hk', hq⟩ := hs
 have fin : resC P fn.results.toList (frzC P fn.results.toList s') = some (.t r) ∧ cntL s'.heap = 0 ∧ cntL (frzC P fn.results.toList s').heap = 0 → ∃ s1, Weak P 0 (toPS fn.ntmps s') s1 ∧ ∃ p, resO P fn.results.toList s1 = some p ∧ Weak P 0 ⟨[p], s1.heap⟩ ⟨[.t r], noH⟩ := fun hq => by
  refine ⟨_, frzC_weak (rs := fn.results.toList) (by rw [hq.2.1, hq.2.2]), .t r, (resC_eq (frzC_keys hk')).trans hq.1, weak_of (m := 0) (Nat.le_refl _) rfl (fun i p p' hp hp' => ?_) (fun id hid => by omega) (fun _ _ => rfl) ?_⟩
  ·rw [hp] at hp'; cases hp'
   cases i with
   | zero => simp at hp; subst hp; exact ⟨.inr (.inl rfl), rfl⟩
   | succ i => simp at hp
  ·show cntOf noH = cntOf (getL (frzC P fn.results.toList s').heap)
   rw [cntL_eq, hq.2.2]; rfl
 cases e with
 | normal => exact fin hq
 | ret => exact fin hq
 | _ => exact hq.elim
theorem hcalls_pwp (hm : P.follows .mixedOrders = true) {f : FuncId} {fn : Func} {c : Code} {al : List PV} {hl hl' : List PO} {v : PV} (hf : P.funcs[f]? = some fn) (hb : fn.body = some c) (hname : (fn.name == "runtime.NumGoroutine") = false)
  (hn : al.length ≤ fn.ntmps) (hw : pwp P ⟨noY, hl.length, false⟩ c (liftC fn.ntmps (bodyH P hl.length fn.results.toList v hl')) (toPS fn.ntmps { env := argsE al 0, heap := hl })) : HCalls P f al (getL hl) v (getL hl') := by
 refine hcalls_of (k := hl.length) hm hf hb hname (fun id hid => getL_out hid) (start_weak hn) (pwp_mono c (fun e σ hs => ?_) _ hw)
 obtain ⟨s', rfl, hk', hq⟩ := hs
 have fin : (∃ p, resC P fn.results.toList s' = some p ∧ cellW hl' p v ∧ v.under hl'.length = true ∧ heapW hl' s'.heap hl' ∧ hl'.all (PO.under hl'.length) = true ∧ hl.length ≤ hl'.length ∧ cntL hl' = cntL s'.heap) →
   ∃ s1, Weak P hl.length (toPS fn.ntmps s') s1 ∧ ∃ p, resO P fn.results.toList s1 = some p ∧ Weak P hl.length ⟨[p], s1.heap⟩ ⟨[v], getL hl'⟩ := by
  rintro ⟨p, h1, h2, h3, h4, h5, h6, h7⟩
  refine ⟨_, Weak.refl _ _, p, (resC_eq hk').trans h1, weak_of (m := hl'.length) h6 rfl (fun i q q' hq hq' => ?_) (fun id hid => ⟨heapW_le h4 id hid, ?_⟩) (fun id hid => getL_out hid) (by show cntOf (getL hl') = cntOf (getL s'.heap); rw [cntL_eq, cntL_eq, h7])⟩
  ·cases i with
   | zero => simp at hq hq'; subst hq; subst hq'; exact ⟨cellW_le h2, h3⟩
   | succ i => simp at hq
  ·rw [List.all_eq_true] at h5
   refine h5 _ ?_
   show hl'.getD id .res ∈ hl'
   rw [List.getD_eq_getElem?_getD, List.getElem?_eq_getElem hid]; exact List.getElem_mem hid
 cases e with
 | normal => exact fin hq
 | ret => exact fin hq
 | _ => exact hq.elim
theorem cellW_refl (l : List PO) (p : PV) : cellW l p p := by
 cases p with
 | cons b x q =>
  show bif (PV.cons b x q).ownIn then PV.cons b x q = .cons b x q else (PV.cons b x q).rlx = .cons b x q
  cases hb : (PV.cons b x q).ownIn with
  | true => rfl
  | false => exact PV.rlx_id hb
 | _ => simp [cellW, PV.toT]
theorem cellsW_refl (l : List PO) : ∀ cs : List PV, cellsW l cs cs
 | [] => trivial
 | c :: cs => ⟨cellW_refl l c, cellsW_refl l cs⟩
theorem objW_refl (l : List PO) (o : PO) : objW l o o := by
 cases o <;> simp [objW, cellsW_refl]
theorem heapW_refl (hp : List PO) : ∀ l : List PO, heapW hp l l
 | [] => by unfold heapW; trivial
 | o :: l => ⟨objW_refl hp o, heapW_refl hp l⟩

theorem evP_ok (hm : P.follows .mixedOrders = true) {sp : Spec} (hsp : SpecOk P sp) {N : Nat} {f : FuncId} {al : List TV} {r : TV} (h : evP P sp N f al = some r) : PCalls P f al r := by
 unfold evP at h
 split at h
 ·rename_i fn hf
  split at h
  ·rename_i c hc
   cases h1 : (!(fn.name == "runtime.NumGoroutine") && Nat.ble al.length fn.ntmps) with
   | false => rw [h1] at h; cases h
   | true =>
    rw [h1] at h; simp only [cond_true] at h
    simp only [Bool.and_eq_true, Bool.not_eq_true'] at h1
    have hn : al.length ≤ fn.ntmps := Nat.le_of_ble_eq_true h1.2
    split at h
    ·rename_i e s he
     cases h2 : (endE e && Nat.beq (cntL s.heap) 0 && Nat.beq (cntL (frzC P fn.results.toList s).heap) 0) with
     | false => rw [h2] at h; cases h
     | true =>
      rw [h2] at h; simp only [cond_true] at h
      simp only [Bool.and_eq_true] at h2
      obtain ⟨⟨h3, h4⟩, h5⟩ := h2
      have h4 : cntL s.heap = 0 := by simpa using h4
      have h5 : cntL (frzC P fn.results.toList s).heap = 0 := by simpa using h5
      split at h
      ·rename_i r' hr
       cases h
       obtain ⟨k1, q1⟩ := ev_ok (k := 0) (b0 := false) hsp c _ e s (argsE_keys _ 0 _ (by simpa using hn)) he
       refine pcalls_pwp hm hf hc h1.1 hn (q1 _ ⟨s, rfl, k1, ?_⟩)
       cases e with
       | normal => exact ⟨hr, h4, h5⟩
       | ret => exact ⟨hr, h4, h5⟩
       | _ => cases h3
      ·cases h
    ·cases h
  ·cases h
 ·cases h
theorem evH_ok (hm : P.follows .mixedOrders = true) {sp : Spec} (hsp : SpecOk P sp) {N : Nat} {f : FuncId} {al : List PV} {hl hl' : List PO} {v : PV} (h : evH P sp N f al hl = some (v, hl')) : HCalls P f al (getL hl) v (getL hl') := by
 unfold evH at h
 split at h
 ·rename_i fn hf
  split at h
  ·rename_i c hc
   cases h1 : (!(fn.name == "runtime.NumGoroutine") && Nat.ble al.length fn.ntmps) with
   | false => rw [h1] at h; cases h
   | true =>
    rw [h1] at h; simp only [cond_true] at h
    simp only [Bool.and_eq_true, Bool.not_eq_true'] at h1
    have hn : al.length ≤ fn.ntmps := Nat.le_of_ble_eq_true h1.2
    split at h
    ·rename_i e s he
     cases h2 : (endE e && Nat.ble hl.length s.heap.length && s.heap.all (PO.under s.heap.length)) with
     | false => rw [h2] at h; cases h
     | true =>
      rw [h2] at h; simp only [cond_true] at h
      simp only [Bool.and_eq_true] at h2
      obtain ⟨⟨h3, h4⟩, h5⟩ := h2
      split at h
      ·rename_i v' hr
       cases h6 : v'.under s.heap.length with
       | false => rw [h6] at h; cases h
       | true =>
        rw [h6] at h; cases h
        obtain ⟨k1, q1⟩ := ev_ok (k := hl.length) (b0 := false) hsp c _ e s (argsE_keys _ 0 _ (by omega)) he
        refine hcalls_pwp hm hf hc h1.1 hn (q1 _ ⟨s, rfl, k1, ?_⟩)
        have fin : ∃ p, resC P fn.results.toList s = some p ∧ cellW s.heap p v ∧ v.under s.heap.length = true ∧ heapW s.heap s.heap s.heap ∧ s.heap.all (PO.under s.heap.length) = true ∧ hl.length ≤ s.heap.length ∧ cntL s.heap = cntL s.heap :=
         ⟨v, hr, cellW_refl _ _, h6, heapW_refl _ _, h5, Nat.le_of_ble_eq_true h4, rfl⟩
        cases e with
        | normal => exact fin
        | ret => exact fin
        | _ => cases h3
      ·cases h
    ·cases h
  ·cases h
 ·cases h

noncomputable def evS (P : Program) (base : Spec) (N : Nat) : Nat → Spec
 | 0 => base
 | k + 1 => { base with
     p := fun f al => match base.p f al with | some r => some r | none => evP P (evS P base N k) N f al
     h := fun f al hl => match base.h f al hl with | some r => some r | none => evH P (evS P base N k) N f al hl }
theorem evS_ok (hm : P.follows .mixedOrders = true) {base : Spec} (hb : SpecOk P base) {N : Nat} : ∀ k, SpecOk P (evS P base N k)
 | 0 => hb
 | k + 1 => ⟨fun f al r h => by
     simp only [evS] at h
     split at h
     ·rename_i r' h'; cases h; exact hb.1 _ _ _ h'
     ·exact evP_ok hm (evS_ok hm hb k) h, fun f al hl v hl' h => by
     simp only [evS] at h
     split at h
     ·rename_i r' h'; cases h; exact hb.2.1 _ _ _ _ _ h'
     ·exact evH_ok hm (evS_ok hm hb k) h, fun Y f al hl v hl' h => by
     simp only [evS] at h; exact hb.2.2.1 _ _ _ _ _ _ h, fun f al hl V hl' h => by
     simp only [evS] at h; exact hb.2.2.2 _ _ _ _ _ h⟩

end Go.Pm

/- Part QmFz. -/
namespace Go.Pm
open Go Go.RowKit
def Spec.frz (sp : Spec) : Spec := { sp with fz := fun _ => true }
theorem Spec.frz_ok {P : Program} {sp : Spec} (h : SpecOk P sp) : SpecOk P sp.frz := ⟨h.1, h.2⟩
section
variable (f : FuncId) (sp : Spec) (al : List TV) (ps : List PV) (hl : List PO) (t : TypeId) (Y : YS)
@[go_sem] theorem frz_p : sp.frz.p f al = sp.p f al := rfl
@[go_sem] theorem frz_h : sp.frz.h f ps hl = sp.h f ps hl := rfl
@[go_sem] theorem frz_y : sp.frz.y Y f ps hl = sp.y Y f ps hl := rfl
@[go_sem] theorem frz_fz : sp.frz.fz f = true := rfl
@[go_sem] theorem frz_pn : sp.frz.pn f ps hl = sp.pn f ps hl := rfl
@[go_sem] theorem frz_fr : sp.frz.fr f = sp.fr f := rfl
@[go_sem] theorem frz_yf : sp.frz.yf f = sp.yf f := rfl
@[go_sem] theorem frz_gd : sp.frz.gd = sp.gd := rfl
@[go_sem] theorem frz_mu : sp.frz.mu t = sp.mu t := rfl
@[go_sem] theorem frz_nf : sp.frz.nf t = sp.nf t := rfl
end
def Spec.gdt (sp : Spec) : Spec := { sp with gd := true }
theorem Spec.gdt_ok {P : Program} {sp : Spec} (h : SpecOk P sp) : SpecOk P sp.gdt := ⟨h.1, h.2⟩
section
variable (f : FuncId) (sp : Spec) (al : List TV) (ps : List PV) (hl : List PO) (t : TypeId) (Y : YS)
@[go_sem] theorem gdt_p : sp.gdt.p f al = sp.p f al := rfl
@[go_sem] theorem gdt_h : sp.gdt.h f ps hl = sp.h f ps hl := rfl
@[go_sem] theorem gdt_y : sp.gdt.y Y f ps hl = sp.y Y f ps hl := rfl
@[go_sem] theorem gdt_fz : sp.gdt.fz f = sp.fz f := rfl
@[go_sem] theorem gdt_pn : sp.gdt.pn f ps hl = sp.pn f ps hl := rfl
@[go_sem] theorem gdt_fr : sp.gdt.fr f = sp.fr f := rfl
@[go_sem] theorem gdt_yf : sp.gdt.yf f = sp.yf f := rfl
@[go_sem] theorem gdt_gd : sp.gdt.gd = true := rfl
@[go_sem] theorem gdt_mu : sp.gdt.mu t = sp.mu t := rfl
@[go_sem] theorem gdt_nf : sp.gdt.nf t = sp.nf t := rfl
end
end Go.Pm

/- Part QmSh. -/
namespace Go.Pm
open Go Go.RowKit
open Classical in
noncomputable def oneP (a0 : List TV) (r0 : TV) : List TV → Option TV := fun a => if a = a0 then some r0 else none
theorem oneP_ok {P : Program} {f : FuncId} {a0 : List TV} {r0 : TV} (h : PCalls P f a0 r0) : ∀ a r, oneP a0 r0 a = some r → PCalls P f a r := by
 intro a r e
 unfold oneP at e
 split at e
 ·rename_i hc; subst hc; cases e; exact h
 ·cases e
open Classical in
@[go_sem] theorem oneP_eq (a0 : List TV) (r0 : TV) (a : List TV) : oneP a0 r0 a = if a = a0 then some r0 else none := rfl
open Classical in
noncomputable def oneHs (ps0 : List PV) (hl0 : List PO) (r : PV × List PO) : List PV → List PO → Option (PV × List PO) := fun ps hl => if ps = ps0 ∧ hl = hl0 then some r else none
open Classical in
@[go_sem] theorem oneHs_eq (ps0 : List PV) (hl0 : List PO) (r : PV × List PO) (ps : List PV) (hl : List PO) : oneHs ps0 hl0 r ps hl = if ps = ps0 ∧ hl = hl0 then some r else none := rfl
open Classical in
noncomputable def manyP : List (List TV × TV) → List TV → Option TV
 | [], _ => none
 | p :: l, a => if a = p.1 then some p.2 else manyP l a
@[go_sem] theorem manyP_nil (a : List TV) : manyP [] a = none := by unfold manyP; rfl
open Classical in
@[go_sem] theorem manyP_cons (a0 : List TV) (r0 : TV) (l : List (List TV × TV)) (a : List TV) : manyP ((a0, r0) :: l) a = if a = a0 then some r0 else manyP l a := by rw [manyP]
end Go.Pm
