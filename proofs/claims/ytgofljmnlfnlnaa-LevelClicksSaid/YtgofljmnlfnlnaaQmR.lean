/- The pure machine, part R: contracts out of bodies. -/
import Derived.Test.YtgofljmnlfnlnaaQmQ
namespace Go.Pm
open Go Go.RowKit

variable {P : Program} {C : Cx} {F F' : Fz} {φ φ' : Nat → Nat × Nat} {h h' : Hp} {w w' : World} {J : Gh}

/-- What a function hands back. -/
def resO1 (P : Program) (σ : PS) : ResultVar → Option PV
  | .tmp t => some (σ.tmps.getD t .junk)
  | .cell a t => match σ.tmps.getD a .junk with
    | .ptr id off => match σ.heap id with
      | .box cells => loadB P t cells off
      | .ro cells => (partT P t (cells.drop off) 0).map .t
      | _ => none
    | _ => none
def resO (P : Program) (rs : List ResultVar) (σ : PS) : Option PV :=
  match rs.map (fun v => (resO1 P σ v).map (thawP σ.heap)) with
  | [some p] => some (normA p)
  | l => (allO l).map (aggP true)

theorem run_result1 {σ : PS} {tm : Array Value} {p : PV} {v : ResultVar} (H : RH P C F φ σ.heap w) (hr : RTm F φ σ.heap σ.tmps tm) (hx : resO1 P σ v = some p) :
    ∃ u, ((fun v => match v with | .tmp t => pure (tm.getD t undef) | .cell b t => do loadVar t (← asAddr (tm.getD b undef))) v : Sem Value).run P w = .ok u w ∧ RepP F φ σ.heap p u := by
  cases v with
  | tmp t => simp only [resO1, Option.some.injEq] at hx; subst hx; exact ⟨_, rfl, hr.at_ t⟩
  | cell b t =>
    simp only [resO1] at hx
    have hb := hr.at_ b
    split at hx
    · rename_i id off hp
      rw [hp] at hb
      obtain ⟨hbox, hu⟩ := hb
      split at hx
      · rename_i cells hc
        obtain ⟨u', hu', hr'⟩ := load_ptr_quiet (t := t) (off := off) H hc hx
        refine ⟨u', ?_, hr'⟩
        simp only [hu, asAddr, Sem.run_bind, Sem.run_pure, Result.andThen_ok, hu']
      · rename_i cells hc
        simp only [Option.map_eq_some_iff] at hx
        obtain ⟨y, hy, rfl⟩ := hx
        have hob := H.objs id
        rw [hc] at hob
        obtain ⟨us, ty, h1, h2, h3, h4⟩ := hob
        obtain ⟨v, hv, hrep⟩ := loadVar_rep (P := P) (w := w) (a := ⟨(φ id).1, off, none⟩) hy (h2.drop off) (fun i u hu => h3 (off + i) u (by simpa using hu)) (fun i u hu => by
          rw [add_plain, cell_at h1]; simpa using hu)
        refine ⟨v, ?_, hrep⟩
        simp only [hu, asAddr, Sem.run_bind, Sem.run_pure, Result.andThen_ok, hv]
      · cases hx
    · cases hx

theorem run_results {σ : PS} {tm : Array Value} {r : PV} {fn : Func} (H : RH P C F φ σ.heap w) (hr : RTm F φ σ.heap σ.tmps tm) (hx : resO P fn.results.toList σ = some r) :
    ∃ u, (results fn tm).run P w = .ok u w ∧ RepP F φ σ.heap r u := by
  have hm : ∀ us : List Value, (fn.results.toList.mapM (fun v => match v with | .tmp t => pure (tm.getD t undef) | .cell b t => do loadVar t (← asAddr (tm.getD b undef))) : Sem (List Value)).run P w = .ok us w →
      (results fn tm).run P w = .ok (if h : us.toArray.size = 1 then us.toArray[0] else .tuple us.toArray) w := by
    intro us hus
    unfold results
    rw [Array.mapM_eq_mapM_toList]
    simp only [Sem.run_bind, Sem.run_map, Sem.run_pure]
    erw [hus]
    rfl
  have key : ∀ (l : List ResultVar) (xs : List PV), allO (l.map fun v => (resO1 P σ v).map (thawP σ.heap)) = some xs →
      ∃ us : List Value, (l.mapM (fun v => match v with | .tmp t => pure (tm.getD t undef) | .cell b t => do loadVar t (← asAddr (tm.getD b undef))) : Sem (List Value)).run P w = .ok us w ∧ us.length = xs.length ∧
        ∀ (i : Nat) (p : PV) (u : Value), xs[i]? = some p → us[i]? = some u → RepP F φ σ.heap p u := by
    intro l
    induction l with
    | nil => intro xs hxs; simp [allO] at hxs; subst hxs; exact ⟨[], by simp, rfl, fun i p u h => by simp at h⟩
    | cons v l ih =>
      intro xs hxs
      simp only [List.map_cons] at hxs
      cases hv : resO1 P σ v with
      | none => rw [hv] at hxs; simp [allO] at hxs
      | some p =>
        rw [hv] at hxs
        simp only [Option.map_some, allO, Option.map_eq_some_iff] at hxs
        obtain ⟨xs', hxs', rfl⟩ := hxs
        obtain ⟨us, hus, rl, rus⟩ := ih xs' hxs'
        obtain ⟨u, hu, ru⟩ := run_result1 H hr hv
        refine ⟨u :: us, ?_, by simp [rl], fun i q z hq hz => ?_⟩
        · simp only at hu
          simp only [List.mapM_cons, Sem.run_bind, hu, Result.andThen_ok, hus, Sem.run_pure]
        · cases i with
          | zero => simp at hq hz; subst hq; subst hz; exact thawP_rep H ru
          | succ i => exact rus i q z (by simpa using hq) (by simpa using hz)
  unfold resO at hx
  split at hx
  · rename_i p hp
    simp only [Option.some.injEq] at hx; subst hx
    obtain ⟨l, hl⟩ : ∃ l, fn.results.toList = l := ⟨_, rfl⟩
    rw [hl] at hp
    match l, hp with
    | [v], hp =>
      simp only [List.map_cons, List.map_nil, List.cons.injEq, and_true, Option.map_eq_some_iff] at hp
      obtain ⟨q, hq, rfl⟩ := hp
      obtain ⟨u, hu, ru⟩ := run_result1 H hr hq
      refine ⟨u, hm [u] ?_, normA_rep (thawP_rep H ru)⟩
      rw [hl]
      simp only at hu
      simp only [List.mapM_cons, List.mapM_nil, Sem.run_bind, hu, Result.andThen_ok, Sem.run_pure]
    | [], hp => simp at hp
    | _ :: _ :: _, hp => simp at hp
  · rename_i hne
    simp only [Option.map_eq_some_iff] at hx
    obtain ⟨xs, hxs, rfl⟩ := hx
    obtain ⟨us, hus, rl, rus⟩ := key _ _ hxs
    have hl : ¬ us.toArray.size = 1 := by
      intro e
      have e1 : xs.length = 1 := by simp at e; omega
      obtain ⟨l, hl⟩ : ∃ l, fn.results.toList = l := ⟨_, rfl⟩
      rw [hl] at hxs hne
      have e2 : l.length = 1 := by
        have := (allO_some (f := fun v => (resO1 P σ v).map (thawP σ.heap)) hxs).1; omega
      match l, e2 with
      | [v], _ =>
        cases hv : (resO1 P σ v).map (thawP σ.heap) with
        | none => rw [List.map_cons, hv] at hxs; simp [allO] at hxs
        | some p => exact hne p (by simp [hv])
    have := aggP_rep (F := F) (φ := φ) (h := σ.heap) (b := true) rl (fun i p u hp hu => ⟨rus i p u hp hu, fun e => by cases e⟩)
    refine ⟨.tuple us.toArray, ?_, this⟩
    rw [hm _ hus, dif_neg hl]

/-- The way out, marks and all. -/
theorem leaves {n : Nat} {fn : Func} {s : PS} {tm : Array Value} {Rr : Ending → World → Prop} (hst : Stable C.w0.heap.size C.E J)
    (hfin : ∀ w, R P C J s { tmps := tm, defers := [] } w → ∃ v, (results fn tm).run P w = .ok v w ∧ Rr (.returned v) w) :
    ∀ (ds : List Deferred) (w : World), R P C J s { tmps := tm, defers := ds } w → LeavesInM (Fr none) n P fn tm Rr ds .returning w
  | [], w, hR => hfin w hR
  | d :: ds, w, hR => by
    obtain ⟨F, φ, G, H, hr, hid, hm, hJ⟩ := hR
    obtain ⟨D, rfl, h1, h2, h3, h4⟩ := hm.2 _ List.mem_cons_self
    have hn := List.nodup_cons.1 hm.1
    have H' : RH P C F φ s.heap (w.putObj D (.deferred none)) := H.putObj h2 rfl (.inl h1)
    refine ⟨by simp, .inl ⟨D, w.putObj D (.deferred none), rfl, run_takeDeferred h2, leaves hst hfin ds _ ⟨F, φ, G, H', hr, fun b hb => ⟨by simpa using (hid b hb).1, (hid b hb).2⟩, ⟨hn.2, fun d hd => ?_⟩, ?_⟩⟩⟩
    · obtain ⟨D', rfl, a1, a2, a3, a4⟩ := hm.2 d (List.mem_cons_of_mem _ hd)
      have hne : D' ≠ D := by rintro rfl; exact hn.1 hd
      exact ⟨D', rfl, a1, (World.putObj_heap_other hne).trans a2, a3, a4⟩
    · refine hst _ F G w F _ hJ (Fz.le_refl _) H'.agree (fun a u b1 b2 => by rw [b1] at b2; cases b2) rfl rfl rfl (by simp) (fun b hb hg => World.putObj_heap_other ?_)
      rintro rfl
      rcases hg with hg | ⟨hg, _⟩
      · exact h4 hg
      · omega

theorem calls_of {f : FuncId} {fn : Func} {c : Code} {args : Array Value} {Rr : Ending → World → Prop} (hf : P.funcs[f]? = some fn) (hb : fn.body = some c)
    (h : c.wpIn (Fr none) 0 P (bodyPostM (Fr none) 0 P fn Rr) { tmps := args ++ Array.replicate (fn.ntmps - args.size) undef, defers := [] } w) : Calls P f args w Rr :=
  callsIn_wide.1 (callsIn_of_wp_marks hf hb trivial h)

/-- THE BODY's TASK: hand back v, leave the objects h'. -/
def bodyQ (P : Program) (k : Nat) (rs : List ResultVar) (v : PV) (h' : Hp) : Exit → PS → Prop
  | .normal, s | .ret, s => ∃ s1, Weak P k s s1 ∧ ∃ p, resO P rs s1 = some p ∧ Weak P k ⟨[p], s1.heap⟩ ⟨[v], h'⟩
  | _, _ => False

def JTrue : Gh := fun _ _ G _ => G = fun _ => False
theorem JTrue.stable (B : Nat) (E : Nat → Prop) : Stable B E JTrue := fun _ _ _ _ _ _ h _ _ _ _ _ _ _ _ => h

theorem RTm.start {as : List PV} {us : List Value} (hus : RPs F φ h as us) (n : Nat) : RTm F φ h (as ++ List.replicate (n - as.length) pv_undef) (us.toArray ++ Array.replicate (n - us.toArray.size) undef) := by
  have hlen : us.toArray.size = as.length := by simpa using hus.1
  refine ⟨by simp [hus.1], fun i p u hp hu => ?_⟩
  rw [hlen] at hu
  by_cases hi : i < as.length
  · rw [List.getElem?_append_left hi] at hp
    rw [Array.getElem?_append_left (by rw [hlen]; exact hi)] at hu
    exact hus.2 i p u hp (by simpa using hu)
  · rw [List.getElem?_append_right (by omega), List.getElem?_replicate] at hp
    rw [Array.getElem?_append_right (by rw [hlen]; omega), Array.getElem?_replicate] at hu
    split at hp
    · cases hp
      split at hu
      · cases hu; exact undef_rep
      · cases hu
    · cases hp

/-- A CONTRACT OUT OF A BODY. -/
theorem hcalls_of (hm : P.follows .mixedOrders = true) {f : FuncId} {fn : Func} {c : Code} {as : List PV} {v : PV} {k : Nat} (hf : P.funcs[f]? = some fn) (hb : fn.body = some c) (hname : (fn.name == "runtime.NumGoroutine") = false)
    (hk : ∀ id, k ≤ id → h id = .res) {σ0 : PS} (hw : Weak P k ⟨as ++ List.replicate (fn.ntmps - as.length) pv_undef, h⟩ σ0) (hp : pwp P ⟨noY, k, false⟩ c (bodyQ P k fn.results.toList v h') σ0) : HCalls P f as h v h' := by
  refine ⟨⟨fn, hf, by rw [hb]; rfl, hname⟩, fun w F φ us H hus => calls_of hf hb ?_⟩
  have hR : R P (loc w F φ h) JTrue ⟨as ++ List.replicate (fn.ntmps - as.length) pv_undef, h⟩ { tmps := us.toArray ++ Array.replicate (fn.ntmps - us.toArray.size) undef, defers := [] } w :=
    ⟨F, φ, fun _ => False, H, RTm.start hus _, fun b hb => hb.elim, ⟨List.nodup_nil, fun d hd => by cases hd⟩, rfl⟩
  have hst := JTrue.stable (loc w F φ h).w0.heap.size (loc w F φ h).E
  refine wpIn_mono (pwp_sound hm c ⟨noY, k, false⟩ _ none 0 (loc w F φ h) JTrue _ _ w noY_ok hst hk (fun e => by cases e) hp (hw _ _ _ _ hst hk hR)) fun e a' w' he => ?_
  obtain ⟨s, hs, hR'⟩ := he
  have fin : (∃ s1, Weak P k s s1 ∧ ∃ p, resO P fn.results.toList s1 = some p ∧ Weak P k ⟨[p], s1.heap⟩ ⟨[v], h'⟩) → LeavesInM (Fr none) 0 P fn a'.tmps (fun e w' => ∃ u F' φ', e = .returned u ∧ RH P (loc w F φ h) F' φ' h' w' ∧ RepP F' φ' h' v u) a'.defers .returning w' := by
    rintro ⟨s1, hweak0, p, hres, hweak⟩
    refine leaves hst (fun w2 hR2 => ?_) a'.defers w' (hweak0 _ _ _ _ hst hk hR')
    obtain ⟨F2, φ2, G2, H2, hr2, hid2, hm2, hJ2⟩ := hR2
    obtain ⟨u, hu, ru⟩ := run_results (fn := fn) H2 hr2 hres
    have hR3 : R P (loc w F φ h) JTrue ⟨[p], s1.heap⟩ { tmps := #[u], defers := [] } w2 :=
      ⟨F2, φ2, G2, H2, ⟨rfl, fun i q u' h1 h2 => by
        cases i with
        | zero => simp at h1 h2; subst h1; subst h2; exact ru
        | succ i => simp at h1⟩, hid2, hm2, hJ2⟩
    obtain ⟨F3, φ3, G3, H3, hr3, _⟩ := hweak _ _ _ _ hst hk hR3
    exact ⟨u, hu, u, F3, φ3, rfl, H3, hr3.2 0 v u rfl rfl⟩
  cases e with
  | normal => exact fin hs
  | ret => exact fin hs
  | _ => exact hs.elim

/-- AN ITERATOR's CONTRACT OUT OF ITS BODY. -/
def cnt0 : Hp := fun i => if i = 0 then .cnt 0 else .res
def bodyI (m : Nat) : Exit → PS → Prop
  | .normal, s | .ret, s => s.heap 0 = .cnt m
  | _, _ => False
theorem iter_of (hm : P.follows .mixedOrders = true) {f : FuncId} {fn : Func} {c : Code} {pre caps : List TV} {xs : List (List TV)} (hf : P.funcs[f]? = some fn) (hb : fn.body = some c) (hname : (fn.name == "runtime.NumGoroutine") = false) (hres : fn.results.toList = [])
    (hp : ∀ (l m : Nat) (stop : Bool), m ≤ xs.length → (stop = false → m = xs.length) → (stop = true → 0 < m) →
      ∃ σ0, Weak P 1 ⟨(pre.map .t ++ .yld l :: caps.map .t) ++ List.replicate (fn.ntmps - (pre.length + (caps.length + 1))) pv_undef, cnt0⟩ σ0 ∧ pwp P ⟨⟨l, xs, m, stop⟩, 1, false⟩ c (bodyI m) σ0) : Iter P f pre caps xs := by
  refine ⟨⟨fn, hf, by rw [hb]; rfl, hname⟩, fun m stop h1 h2 h3 J l w F G vs us hst hY hag hG hvs hus hJ => calls_of hf hb ?_⟩
  obtain ⟨σ0, hw, hp⟩ := hp l m stop h1 h2 h3
  let C : Cx := ⟨w, F, cnt0, fun _ => (0, 0), G⟩
  have hk : ∀ id, 1 ≤ id → C.h0 id = .res := fun id hid => if_neg (by omega)
  have hno : ∀ i, (cnt0 i).live = false := fun i => by unfold cnt0; split <;> rfl
  have H : RH P C F (fun _ => (0, 0)) cnt0 w := ⟨hag, Fz.le_refl _, fun a u h1 h2 => (by rw [show F a = none from h2] at h1; cases h1), fun id => (by unfold cnt0; split <;> trivial), fun i j li => (by rw [hno] at li; cases li), fun i li => (by rw [hno] at li; cases li), Bel.refl _ _, HStep.refl _ _⟩
  have hRPs : RPs F (fun _ => (0, 0)) cnt0 (pre.map .t ++ .yld l :: caps.map .t) (vs ++ .func (.yield l) #[] #[] :: us) := (RPs.of_t hvs.1 hvs.2).append (RPs.cons rfl (RPs.of_t hus.1 hus.2))
  have hR : R P C J ⟨(pre.map .t ++ .yld l :: caps.map .t) ++ List.replicate (fn.ntmps - (pre.length + (caps.length + 1))) pv_undef, cnt0⟩ { tmps := (vs ++ .func (.yield l) #[] #[] :: us).toArray ++ Array.replicate (fn.ntmps - (vs ++ .func (.yield l) #[] #[] :: us).toArray.size) undef, defers := [] } w := by
    refine ⟨F, fun _ => (0, 0), G, H, ?_, fun b hb => ⟨hG b hb, fun ⟨id, li, _⟩ => (by rw [hno] at li; cases li), .inr hb⟩, ⟨List.nodup_nil, fun d hd => by cases hd⟩, hJ⟩
    have := RTm.start hRPs fn.ntmps
    simpa using this
  refine wpIn_mono (pwp_sound hm c ⟨⟨l, xs, m, stop⟩, 1, false⟩ _ none 0 C J _ _ w hY hst hk (fun e => by cases e) hp (hw _ _ _ _ hst hk hR)) fun e a' w' he => ?_
  obtain ⟨s, hs, hR'⟩ := he
  have fin : s.heap 0 = .cnt m → LeavesInM (Fr none) 0 P fn a'.tmps (fun e w' => ∃ u F' G', e = .returned u ∧ J m F' G' w' ∧ F.le F' ∧ (∀ a u, F' a = some u → w'.cell? a = some u) ∧ Bel G w w') a'.defers .returning w' := by
    intro hs
    refine leaves hst (fun w2 hR2 => ?_) a'.defers w' hR'
    obtain ⟨F2, φ2, G2, H2, hr2, hid2, hm2, hJ2⟩ := hR2
    obtain ⟨u, hu, ru⟩ := run_results (fn := fn) (r := .t (.tup [])) H2 hr2 (by rw [hres]; rfl)
    have e : cntOf s.heap = m := by unfold cntOf; rw [hs]
    rw [e] at hJ2
    exact ⟨u, hu, u, F2, G2, rfl, hJ2, H2.more, H2.agree, H2.bel⟩
  cases e with
  | normal => exact fin hs
  | ret => exact fin hs
  | _ => exact hs.elim

end Go.Pm
