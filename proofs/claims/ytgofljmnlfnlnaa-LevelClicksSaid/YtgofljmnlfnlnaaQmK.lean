/- The pure machine, part K: a state of the abstract machine and a frame's; one operation of a region. -/
import Derived.Test.YtgofljmnlfnlnaaQmJ
import Derived.RangeFuncNested
import Derived.OrdersIn
import Derived.OwnWalkIn
namespace Go.Pm
open Go Go.RowKit

variable {P : Program} {C : Cx} {F F' : Fz} {φ φ' φ'' : Nat → Nat × Nat} {h h' h'' : Hp} {w w' : World}

theorem RTm.at_ {ps : List PV} {us : Array Value} (hr : RTm F φ h ps us) (t : Nat) : RepP F φ h (ps.getD t .junk) (us.getD t undef) := by
  rw [List.getD_eq_getElem?_getD]
  cases hp : ps[t]? with
  | none => trivial
  | some p =>
    have ht : t < us.size := by rw [hr.1]; exact (List.getElem?_eq_some_iff.1 hp).1
    have hu : us[t]? = some us[t] := Array.getElem?_eq_getElem ht
    have e : us.getD t undef = us[t] := by simp [Array.getD, ht]
    rw [e]
    exact hr.2 t p _ hp hu

theorem constP_rep (v : Value) : RepP F φ h (constP v) v := by
  unfold constP
  split
  · rename_i x hx; exact (ofVal_rep hx).1
  · trivial

theorem eval_rep {σ : PS} {a : Act} (hr : RTm F φ σ.heap σ.tmps a.tmps) (x : Operand) : RepP F φ σ.heap (σ.eval x) (a.eval x) := by
  cases x with
  | tmp t => exact hr.at_ t
  | const v => exact constP_rep v
  | global g => trivial
  | func f => exact RepT.fn f [] [] [] [] rfl (by simp) rfl (by simp)

theorem undef_rep : RepP F φ h pv_undef undef := RepT.tup [] [] rfl (by simp)

theorem RTm.put {ps : List PV} {us : Array Value} (hr : RTm F φ h ps us) (d : Nat) {v : PV} {u : Value} (hv : RepP F φ h v u) : RTm F φ h (ps.set d v) (us.setIfInBounds d u) := by
  refine ⟨by simp [hr.1], fun i p q hp hq => ?_⟩
  by_cases hi : i = d
  · subst hi
    have hlt : i < ps.length := by have := (List.getElem?_eq_some_iff.1 hp).1; simpa using this
    rw [List.getElem?_set_self hlt] at hp; cases hp
    rw [Array.getElem?_setIfInBounds_self_of_lt (by rw [hr.1]; exact hlt)] at hq; cases hq
    exact hv
  · rw [List.getElem?_set_ne (Ne.symm hi)] at hp
    rw [Array.getElem?_setIfInBounds_ne (Ne.symm hi)] at hq
    exact hr.2 i p q hp hq

theorem guard_sim {ops : Array Oper} {o : Oper} {σ : PS} {a : Act} {b : Bool} (hr : RTm F φ h σ.tmps a.tmps) (hg : guardO ops o σ = some b) : Region.wanted o (yielded ops a.tmps) = b := by
  unfold guardO at hg
  unfold Region.wanted
  split at hg
  · rename_i hn; rw [hn]; cases hg; rfl
  · rename_i j want hj
    rw [hj]
    simp only
    unfold yielded
    split at hg
    · rename_i hd; rw [hd]; simp at hg ⊢; exact hg
    · rename_i d hd
      rw [hd]
      simp only [Option.bind_some]
      split at hg
      · rename_i ht
        have : a.tmps[d]? = none := by
          rw [Array.getElem?_eq_none_iff, hr.1]; exact List.getElem?_eq_none_iff.1 ht
        rw [this]; simp at hg ⊢; exact hg
      · rename_i c ht
        have hlt : d < a.tmps.size := by rw [hr.1]; exact (List.getElem?_eq_some_iff.1 ht).1
        have hu : a.tmps[d]? = some a.tmps[d] := Array.getElem?_eq_getElem hlt
        have := RepT.bool_inv (hr.2 d _ _ ht hu)
        rw [hu, this]; simp only [Option.some.injEq] at hg
        rw [← hg]
        cases c <;> cases want <;> rfl
      · rename_i c' c ht
        have hlt : d < a.tmps.size := by rw [hr.1]; exact (List.getElem?_eq_some_iff.1 ht).1
        have hu : a.tmps[d]? = some a.tmps[d] := Array.getElem?_eq_getElem hlt
        have hrep := hr.2 d _ _ ht hu
        simp only [Option.some.injEq] at hg
        cases c' with
        | true =>
          have := RepT.bool_inv (hrep.1 rfl)
          rw [hu, this, ← hg]
          cases c <;> cases want <;> rfl
        | false =>
          have := hrep.2 rfl
          rw [hu, this, ← hg]; rfl
      · cases hg
      · cases hg
      · rename_i p hnb _ hnc hnj ht
        have hlt : d < a.tmps.size := by rw [hr.1]; exact (List.getElem?_eq_some_iff.1 ht).1
        have hu : a.tmps[d]? = some a.tmps[d] := Array.getElem?_eq_getElem hlt
        have hrep := hr.2 d _ _ ht hu
        rw [hu]
        generalize a.tmps[d] = u at hrep
        have hne : ∀ c, u ≠ .bool c := by
          rintro c rfl
          cases p with
          | t x => cases hrep with | bool => exact hnb _ rfl
          | ptr => cases hrep.2
          | own cs n =>
            rcases Nat.eq_zero_or_pos n with h0 | h0
            · cases (hrep.1 h0).2
            · cases hrep.2.1 h0
          | fnc => cases hrep.2
          | yld => cases hrep
          | cond b q => exact hnc b q rfl
          | gsl => obtain ⟨_, _, _, _, _, _, e, _⟩ := hrep; cases e
          | gptr => obtain ⟨_, _, _, _, _, _, e, _⟩ := hrep; cases e
          | mapr => obtain ⟨_, _, e⟩ := hrep; cases e
          | nil b => cases b <;> cases hrep
          | cons b => obtain ⟨_, _, e, _⟩ := hrep; cases b <;> cases e
          | junk => exact hnj rfl
        simp at hg
        cases u <;> first | exact absurd rfl (hne _) | (simp; exact hg)

/-- A call's way in. -/
theorem normA_rep {p : PV} {u : Value} (hr : RepP F φ h p u) : RepP F φ h (normA p) u := by
  unfold normA
  split
  · rename_i x hx; exact PV.toT_rep hx hr
  · exact hr
theorem RPs.cons {p : PV} {u : Value} {ps : List PV} {us : List Value} (a : RepP F φ h p u) (b : RPs F φ h ps us) : RPs F φ h (p :: ps) (u :: us) := by
  refine ⟨by simp [b.1], fun i q v h1 h2 => ?_⟩
  cases i with
  | zero => simp at h1 h2; subst h1; subst h2; exact a
  | succ i => simp at h1 h2; exact b.2 i q v h1 h2
theorem RPs.append {ps qs : List PV} {us vs : List Value} (a : RPs F φ h ps us) (b : RPs F φ h qs vs) : RPs F φ h (ps ++ qs) (us ++ vs) := by
  refine ⟨by simp [a.1, b.1], fun i q v h1 h2 => ?_⟩
  by_cases hi : i < ps.length
  · rw [List.getElem?_append_left hi] at h1
    rw [List.getElem?_append_left (by rw [a.1]; exact hi)] at h2
    exact a.2 i q v h1 h2
  · rw [List.getElem?_append_right (Nat.le_of_not_lt hi)] at h1
    rw [List.getElem?_append_right (by rw [a.1]; exact Nat.le_of_not_lt hi), a.1] at h2
    exact b.2 _ q v h1 h2
theorem RPs.of_t {xs : List TV} {us : List Value} (hl : us.length = xs.length) (hr : ∀ (i : Nat) (c : TV) (u : Value), xs[i]? = some c → us[i]? = some u → RepT F c u) : RPs F φ h (xs.map .t) us :=
  ⟨by simpa using hl, fun i p u hp hu => by obtain ⟨x, hx, rfl⟩ := getElem?_map_t hp; exact hr i x u hx hu⟩

theorem run_target {c : Call} {ρp : Operand → PV} {ρv : Operand → Value} (hρ : ∀ x, RepP F φ h (ρp x) (ρv x)) {f : FuncId} {as : List PV} (ht : targetO P c ρp = some (f, as)) {type : TypeId} (hf : FnOk P f) :
    ∃ us : List Value, RPs F φ h as us ∧ (do let d ← resolve ρv c type; invoke d.target d.args : Sem Next).run P w = .ok (.enter f us.toArray) w := by
  obtain ⟨fn, hfn, hbody, hname⟩ := hf
  have hcall : ∀ us : Array Value, (callFunc f us).run P w = .ok (.enter f us) w := by
    intro us
    simp only [callFunc, Sem.run_bind, run_program, Result.andThen_ok, hfn, hname, hbody, Bool.false_eq_true, if_false, Sem.run_pure]
  have hargs : ∀ (l : List Operand), RPs F φ h (l.map fun a => normA (ρp a)) (l.map ρv) := by
    intro l
    induction l with
    | nil => exact ⟨rfl, fun i p u hp => by simp at hp⟩
    | cons a l ih => exact RPs.cons (normA_rep (hρ a)) ih
  have hmap : (c.args.map ρv) = (c.args.toList.map ρv).toArray := by apply Array.ext'; simp
  unfold targetO at ht
  split at ht
  · rename_i g hg
    split at ht
    · rename_i f' pre caps hpg
      simp only [Option.some.injEq, Prod.mk.injEq] at ht; obtain ⟨rfl, rfl⟩ := ht
      have hr := hρ g
      rw [hpg] at hr
      have hr' : RepT F (.fn f' pre caps) (ρv g) := hr
      generalize hu : ρv g = u at hr'
      cases hr' with
      | fn _ _ _ vs us hlv hrv hl hrr =>
        refine ⟨vs ++ c.args.toList.map ρv ++ us, ((RPs.of_t hlv hrv).append (hargs _)).append (RPs.of_t hl hrr), ?_⟩
        simp only [Sem.run_bind, resolve, hg, hu, Deferred.ofValue, Sem.run_pure, Result.andThen_ok, invoke, hmap]
        have e : (vs.toArray ++ (c.args.toList.map ρv).toArray) ++ us.toArray = (vs ++ c.args.toList.map ρv ++ us).toArray := by apply Array.ext'; simp
        rw [e, hcall]
    · rename_i f' ids hpg
      simp only [Option.some.injEq, Prod.mk.injEq] at ht; obtain ⟨rfl, rfl⟩ := ht
      have hr := hρ g
      rw [hpg] at hr
      obtain ⟨hb, hu⟩ := hr
      refine ⟨c.args.toList.map ρv ++ ids.map fun id => .pointer (some ⟨(φ id).1, 0, none⟩), (hargs _).append ⟨by simp, fun i p u hp hu => ?_⟩, ?_⟩
      · simp only [List.getElem?_map, Option.map_eq_some_iff] at hp hu
        obtain ⟨a, ha, rfl⟩ := hp
        obtain ⟨b, hb', rfl⟩ := hu
        rw [ha] at hb'; cases hb'
        exact ⟨hb a (List.mem_of_getElem? ha), rfl⟩
      · simp only [Sem.run_bind, resolve, hg, hu, Deferred.ofValue, Sem.run_pure, Result.andThen_ok, invoke, hmap]
        have e : (#[] ++ (c.args.toList.map ρv).toArray) ++ (ids.map fun id => Value.pointer (some ⟨(φ id).1, 0, none⟩)).toArray = (c.args.toList.map ρv ++ ids.map fun id => Value.pointer (some ⟨(φ id).1, 0, none⟩)).toArray := by apply Array.ext'; simp
        rw [e, hcall]
    · cases ht
  · rename_i r name hg
    split at ht
    · rename_i t x hpr
      split at ht
      · rename_i f' hm
        simp only [Option.some.injEq, Prod.mk.injEq] at ht; obtain ⟨rfl, rfl⟩ := ht
        have hr := hρ r
        rw [hpr] at hr
        have hr' : RepT F (.ifc t x) (ρv r) := hr
        generalize hu : ρv r = u at hr'
        cases hr' with
        | ifc _ _ u hx =>
          refine ⟨u :: c.args.toList.map ρv, RPs.cons hx (hargs _), ?_⟩
          unfold methodO at hm
          split at hm
          · cases hm
          · rename_i i hi
            split at hm
            · cases hm
            · rename_i m hfind
              have hfind' : Array.find? (fun x => x.name == name) i.methods = some m := hfind
              split at hm
              · cases hm
              · rename_i f2 d hnp hpath hfunc hund
                simp at hm; subst hm
                have hmeth : ∀ fuel, (method (fuel + 1) t u name).run P w = .ok (f2, u) w := by
                  intro fuel
                  simp only [method, Sem.run_bind, typeInfo, run_program, Result.andThen_ok, hi, Sem.run_pure, hfind', hpath, follow, hfunc, receiverAt, run_underlying' hund, Place.get]
                simp only [Sem.run_bind, resolve, hg, hu, Sem.run_pure, Result.andThen_ok, invoke, hmap]
                have e1 : (#[Value.iface t u] ++ (c.args.toList.map ρv).toArray)[0]? = some (Value.iface t u) := by simp
                have e2 : (#[Value.iface t u] ++ (c.args.toList.map ρv).toArray).extract 1 (#[Value.iface t u] ++ (c.args.toList.map ρv).toArray).size = (c.args.toList.map ρv).toArray := by
                  apply Array.ext'; simp only [Array.toList_extract, Array.size_append]; simp; exact List.take_of_length_le (by simp)
                simp only [e1, e2, callMethod, Sem.run_bind, run_program, Result.andThen_ok]
                have hdep : 0 < Made.depth := by decide
                obtain ⟨k, hk⟩ : ∃ k, P.types.size + Made.depth = k + 1 := ⟨P.types.size + Made.depth - 1, by omega⟩
                rw [hk, hmeth]
                simp only [Result.andThen_ok]
                have e3 : #[u] ++ (c.args.toList.map ρv).toArray = (u :: c.args.toList.map ρv).toArray := by apply Array.ext'; simp
                rw [e3, hcall]
              · cases hm
      · cases ht
    · cases ht
  · cases ht

theorem seenBy_rep {o : Oper} {b : Bool} {ρp : Operand → PV} {ρv : Operand → Value} (hb : b = true) (hρ : ∀ x, RepP F φ h (ρp x) (ρv x)) (x : Operand) : RepP F φ h (seenBy o b ρp x) (ρv x) := by
  unfold seenBy
  split
  · exact hρ x
  · exact strip_rep hb (hρ x)
theorem condW_true {o : Oper} {v : PV} {u : Value} (hv : RepP F φ h v u) : RepP F φ h (condW o true v) u := by
  unfold condW
  split
  · exact hv
  · exact ⟨fun _ => hv, fun e => (by cases e)⟩


/-! ### A state and a frame -/
/-- What a call's surroundings rely on: by the number of rounds that are over, what is frozen, which blocks are theirs, and the world. -/
abbrev Gh := Nat → Fz → (Nat → Prop) → World → Prop
/-- It abides whatever a call may do. -/
def Stable (B : Nat) (E : Nat → Prop) (J : Gh) : Prop :=
  ∀ (i : Nat) (F : Fz) (G : Nat → Prop) (w : World) (F' : Fz) (w' : World), J i F G w → F.le F' → (∀ a u, F' a = some u → w'.cell? a = some u) →
    (∀ a u, F' a = some u → F a = none → (B ≤ a.block ∨ E a.block) ∧ ¬ G a.block) → w'.os = w.os → w'.tape = w.tape → w'.output = w.output → w.heap.size ≤ w'.heap.size →
    (∀ b, b < w.heap.size → (G b ∨ (b < B ∧ ¬ E b)) → w'.heap[b]? = w.heap[b]?) → J i F' G w'
def cntOf (h : Hp) : Nat := match h 0 with | .cnt n => n | _ => 0

def Hid (C : Cx) (φ : Nat → Nat × Nat) (h : Hp) (G : Nat → Prop) (w : World) : Prop := ∀ b, G b → b < w.heap.size ∧ ¬ own φ h b ∧ (C.w0.heap.size ≤ b ∨ C.E b)
/-- The marks of ranges over functions that are over. -/
def Marks (C : Cx) (φ : Nat → Nat × Nat) (h : Hp) (G : Nat → Prop) (ds : List Deferred) (w : World) : Prop :=
  ds.Nodup ∧ ∀ d ∈ ds, ∃ D, d = { target := .collected D, args := #[] } ∧ C.w0.heap.size ≤ D ∧ w.heap[D]? = some (.deferred (some [])) ∧ ¬ own φ h D ∧ ¬ G D

def R (P : Program) (C : Cx) (J : Gh) (σ : PS) (a : Act) (w : World) : Prop :=
  ∃ F φ G, RH P C F φ σ.heap w ∧ RTm F φ σ.heap σ.tmps a.tmps ∧ Hid C φ σ.heap G w ∧ Marks C φ σ.heap G a.defers w ∧ J (cntOf σ.heap) F G w

/-- The surroundings, behind what happened here and now. -/
theorem surr {J : Gh} {G : Nat → Prop} {ds : List Deferred} {i : Nat} (hst : Stable C.w0.heap.size C.E J) (H : RH P C F φ h w) (hid : Hid C φ h G w) (hm : Marks C φ h G ds w) (hJ : J i F G w) (H' : RH P (loc w F φ h) F' φ' h' w') :
    Hid C φ' h' G w' ∧ Marks C φ' h' G ds w' ∧ J i F' G w' := by
  have hown : ∀ b, own φ h b → C.w0.heap.size ≤ b ∨ C.E b := fun b ⟨id, hl, e⟩ => e ▸ H.high id hl
  have hnew : ∀ b, b < w.heap.size → ¬ own φ h b → ¬ own φ' h' b := by
    rintro b hb hn ⟨id, li, e⟩
    rcases H'.high id li with h3 | h3
    · rw [e] at h3; exact absurd (show w.heap.size ≤ b from h3) (by omega)
    · rw [e] at h3; exact hn h3
  have hsz : w.heap.size ≤ w'.heap.size := H'.bel.size
  refine ⟨fun b hb => ⟨Nat.lt_of_lt_of_le (hid b hb).1 hsz, hnew b (hid b hb).1 (hid b hb).2.1, (hid b hb).2.2⟩, ⟨hm.1, fun d hd => ?_⟩, ?_⟩
  · obtain ⟨D, e, h1, h2, h3, h4⟩ := hm.2 d hd
    have hlt := lt_of_block h2
    exact ⟨D, e, h1, (H'.bel.block D hlt h3).trans h2, hnew D hlt h3, h4⟩
  · refine hst i F G w F' w' hJ H'.more H'.agree (fun a u h1 h2 => ?_) H'.bel.os H'.bel.tape H'.bel.output hsz (fun b hb hg => H'.bel.block b hb fun ho => ?_)
    · rcases H'.news a u h1 h2 with h3 | h3
      · have h3' : w.heap.size ≤ a.block := h3
        refine ⟨.inl (Nat.le_trans H.bel.size h3'), fun hg => ?_⟩
        have := (hid _ hg).1; omega
      · exact ⟨hown _ h3, fun hg => (hid _ hg).2.1 h3⟩
    · rcases hg with hg | ⟨h1, h2⟩
      · exact (hid b hg).2.1 ho
      · rcases hown b ho with h3 | h3
        · omega
        · exact h2 h3

/-- The fence of the walks: none but for the round in which the frame is. -/
def Fr (l : Option Nat) : Fence := { Fence.wide with round := l }

/-- What the iterator may rely on when it calls yield. -/
def YOk (P : Program) (J : Gh) (Y : YS) : Prop :=
  ∀ (n : Nat) (F : Fz) (G : Nat → Prop) (w : World) (us : List Value) (k : Nat) (as : List TV), k < Y.m → Y.xs[k]? = some as → J k F G w → (∀ a u, F a = some u → w.cell? a = some u) → (∀ b, G b → b < w.heap.size) → RepL F as us →
    YieldAt Fence.wide n P Y.l us.toArray w fun e w' => ∃ F' G', e = .returned (.bool (!(Y.stop && k + 1 == Y.m))) ∧ J (k + 1) F' G' w' ∧ F.le F' ∧ (∀ a u, F' a = some u → w'.cell? a = some u) ∧
      (∀ a u, F' a = some u → F a = none → w.heap.size ≤ a.block ∨ G a.block) ∧ Bel G w w' ∧ (∀ b, G' b → G b ∨ w.heap.size ≤ b) ∧ ∀ b, G' b → b < w'.heap.size

theorem uponIn_gives {l : Option Nat} {n : Nat} {o : Oper} {a : Act} {K : Act → World → Prop} {Q : Exit → Act → World → Prop} {r : Result Next} {u : Value} (hg : Gives r u w') (hk : K (a.put o.dst u) w') : o.uponIn (Fr l) n P a K Q r := by
  rcases hg with rfl | ⟨rfl, rfl⟩
  · exact hk
  · exact hk

/-- The number of rounds that are over is left alone. -/
theorem cntOf_wr : ∀ (W : Wr) (h : Hp), (∀ x o, (x, o) ∈ W → (∀ n, h x ≠ .cnt n) ∧ ∀ n, o ≠ .cnt n) → cntOf (wr h W) = cntOf h
  | [], _, _ => rfl
  | p :: W, h, hw => by
    obtain ⟨h1, h2⟩ := hw p.1 p.2 List.mem_cons_self
    have e1 : cntOf (upo h p.1 p.2) = cntOf h := by
      unfold cntOf
      by_cases e : (0 : Nat) = p.1
      · rw [e, upo_same]
        cases hp : p.2 <;> cases hh : h p.1 <;> first | rfl | exact absurd hp (h2 _) | exact absurd hh (h1 _)
      · rw [upo_other _ _ e]
    show cntOf (wr (upo h p.1 p.2) W) = _
    rw [cntOf_wr W _ fun x o hx => ?_, e1]
    obtain ⟨h3, h4⟩ := hw x o (List.mem_cons_of_mem _ hx)
    refine ⟨fun n => ?_, h4⟩
    by_cases e : x = p.1
    · subst e; rw [upo_same]; exact h2 n
    · rw [upo_other _ _ e]; exact h3 n

end Go.Pm
