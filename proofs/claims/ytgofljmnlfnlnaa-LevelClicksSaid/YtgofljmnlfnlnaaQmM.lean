/- The pure machine, part M: one operation of a region, in whatever frame. -/
import Derived.Test.YtgofljmnlfnlnaaQmL
namespace Go.Pm
open Go Go.RowKit

variable {P : Program} {C : Cx} {F F' : Fz} {φ φ' φ'' : Nat → Nat × Nat} {h h' h'' : Hp} {w w' : World} {J : Gh} {Y : YS}

/-- The state behind an operation. -/
theorem R_put {σ : PS} {a : Act} {dst : Option Tmp} {v : PV} {u : Value} {hh : Hp} {G : Nat → Prop} (H : RH P C F' φ' hh w') (hr : RTm F' φ' hh σ.tmps a.tmps) (hid : Hid C φ' hh G w') (hm : Marks C φ' hh G a.defers w') (hJ : J (cntOf hh) F' G w')
    (hv : RepP F' φ' hh v u) : R P C J (σ.put dst v hh) (a.put dst u) w' := by
  refine ⟨F', φ', G, H, ?_, hid, ?_, hJ⟩
  · cases dst with
    | none => exact hr
    | some d => exact hr.put d hv
  · cases dst with
    | none => exact hm
    | some d => exact hm

theorem not_defer {P : Program} {op : Op} {ρ : Operand → PV} {rid : Nat} {r : PV × Wr} (hp : pop P op ρ h rid = some r) : ∀ c, op ≠ .defer c := by
  rintro c rfl; simp [pop] at hp

theorem roundIn_any {l : Option Nat} {n m : Nat} {L : Nat} {f : FuncId} {tmps : Array Value} {assign body : Code} {Q : Ending → World → Prop} (h : RoundIn Fence.wide n P L f tmps assign body w Q) : RoundIn (Fr l) m P L f tmps assign body w Q :=
  ⟨trivial, fun c cs _ => h.2 c cs (room_wide _)⟩
theorem callsIn_any {l : Option Nat} {n : Nat} {f : FuncId} {args : Array Value} {Q : Ending → World → Prop} (h : Calls P f args w Q) : CallsIn (Fr l) n P f args w Q := callsIn_wide.2 h

theorem not_deferM {P : Program} {op : Op} {ρ : Operand → PV} {rid : Nat} {r : PV × Wr} (hp : popM P op ρ h rid = some r) : ∀ c, op ≠ .defer c := by
  rintro c rfl; simp [popM] at hp

/-- One operation that is wanted. -/
theorem op_sim {l : Option Nat} {n : Nat} (hY : YOk P J Y) (hst : Stable C.w0.heap.size C.E J) {o : Oper} {σ : PS} {ρ : Operand → PV} {rid : Nat} {v : PV} {W : Wr} {f : Foot} {a : Act} {K : Act → World → Prop} {Q : Exit → Act → World → Prop}
    {F : Fz} {φ : Nat → Nat × Nat} {G : Nat → Prop} (H : RH P C F φ σ.heap w) (hr : RTm F φ σ.heap σ.tmps a.tmps) (hid : Hid C φ σ.heap G w) (hm : Marks C φ σ.heap G a.defers w) (hJ : J (cntOf σ.heap) F G w)
    (hρ : ∀ x, RepP F φ σ.heap (ρ x) (a.eval x)) (hv : OpVal0 P Y o.op ρ σ.heap rid v W f) (hK : ∀ a' w', R P C J (σ.put o.dst (condW o true v) (wr σ.heap W)) a' w' → K a' w') : o.wpIn (Fr l) n P a w K Q := by
  have hgoal : o.uponIn (Fr l) n P a K Q ((o.semAt (Fr l).round a.eval).run P w) → o.wpIn (Fr l) n P a w K Q := fun h => ⟨fun _ _ => trivial, h⟩
  refine hgoal ?_
  have hvv : True → OpVal0 P Y o.op ρ σ.heap rid v W f := fun _ => hv
  clear hgoal
  have fin : ∀ (hnd : ∀ c, o.op ≠ .defer c) (hsim : Sim P (loc w F φ σ.heap) σ.heap ((execOp a.eval o).run P w) v W) (hcnt : cntOf (wr σ.heap W) = cntOf σ.heap),
      o.uponIn (Fr l) n P a K Q ((o.semAt (Fr l).round a.eval).run P w) := by
    intro hnd hsim hcnt
    rw [Oper.semAt_plain (Fr l) a.eval o hnd]
    obtain ⟨F', φ', u, w', g1, g2, g3⟩ := hsim
    obtain ⟨s1, s2, s3⟩ := surr hst H hid hm hJ g2
    exact uponIn_gives g1 (hK _ _ (R_put (H.trans g2) (hr.step g2.more g2.step) s1 s2 (by rw [hcnt]; exact s3) (condW_true g3)))
  rcases hvv trivial with (⟨hp, hf⟩ | ⟨hp, hf⟩) | ⟨ids, hp, hf⟩ | ⟨c, hop, hc | hy⟩
  · exact fin (not_defer hp) (pop_sim H.here hρ hp) (cntOf_wr W _ fun x o hx => ((pop_loc hp).1 x o hx).2.2)
  · exact fin (not_deferM hp) (popM_sim H.here hρ hp) (cntOf_wr W _ fun x o hx => ((popM_loc hp).1 x o hx).2.2)
  · exact fin (by rintro c hc; rw [hc] at hp; simp [popF] at hp) (popF_sim H.here hρ hp) (cntOf_wr W _ fun x o hx => ((popF_loc hp).1 x o hx).2.2)
  · obtain ⟨fn, as, as', hl, hl', v', ids, c1, c2, c3, c4, c5, c6, c7, c8, c8', c9, c10, c11⟩ := hc
    have hnd : ∀ c, o.op ≠ .defer c := by intro c' h'; rw [hop] at h'; cases h'
    rw [Oper.semAt_plain (Fr l) a.eval o hnd]
    obtain ⟨us, hus, hrun⟩ := run_target (P := P) (w := w) (type := o.type) hρ c1 c2.1
    have he : execOp a.eval o = (do let d ← resolve a.eval c o.type; invoke d.target d.args : Sem Next) := by
      simp only [execOp, hop]
    rw [he, hrun]
    refine ⟨fun e => (by cases e), callsIn_any ?_⟩
    let φl : Nat → Nat × Nat := fun i => φ (ids.getD i 0)
    have hRen : Ren ids φ σ.heap φl hl := ⟨fun i j hi => ⟨(c6 i j hi).1, by show φ j = φ (ids.getD i 0); rw [getD_of hi]⟩, fun i hi => (c7 i hi).1⟩
    have hus' : RPs F φl hl as' us := by
      subst c3
      refine ⟨by simpa using hus.1, fun i p u hp hu => hRen.down ?_ (hus.2 i (p.ren ids) u (by rw [List.getElem?_map, hp]; rfl) hu)⟩
      exact (List.all_eq_true.1 c5) p (List.mem_of_getElem? hp)
    refine (c2.2 w F φl us (H.sub c4 hRen fun i j hi => (c6 i j hi).2) hus').mono fun e w' hpost => ?_
    obtain ⟨u, F', φl', rfl, H', hv'⟩ := hpost
    obtain ⟨φ', H2, hRen'⟩ := H.here.join c4 hRen H' (fun i hi => (c7 i hi).2)
    have hW : W = renW ids hl' := c10
    obtain ⟨s1, s2, s3⟩ := surr hst H hid hm hJ H2
    have hcnt : cntOf (wr σ.heap (renW ids hl')) = cntOf σ.heap := by
      unfold cntOf
      by_cases h0 : 0 ∈ ids
      · obtain ⟨i, hi, e⟩ := List.getElem_of_mem h0
        have hi' : ids[i]? = some 0 := by rw [List.getElem?_eq_getElem hi, e]
        rw [renW_at c4 hi', (c6 i 0 hi').1]
        have a1 := c8 i 0 hi'
        have a2 := c8' i 0 hi'
        cases e1 : hl i <;> cases e2 : hl' i <;> first | rfl | exact absurd e1 (a1 _) | exact absurd e2 (a2 _)
      · rw [renW_out h0]
    subst hW
    refine hK _ _ (R_put (H.trans H2) (hr.step H2.more H2.step) s1 s2 (by rw [hcnt]; exact s3) (condW_true ?_))
    rw [c9]; exact hRen'.up hv'
  · obtain ⟨g, as, k, y1, y2, y3, y4, y5, y6, y7, y8, y9⟩ := hy
    have hnd : ∀ c, o.op ≠ .defer c := by intro c' h'; rw [hop] at h'; cases h'
    rw [Oper.semAt_plain (Fr l) a.eval o hnd]
    have he : execOp a.eval o = (do let d ← resolve a.eval c o.type; invoke d.target d.args : Sem Next) := by
      simp only [execOp, hop]
    have hg2 := hρ g
    rw [y2] at hg2
    have hg3 : a.eval g = .func (.yield Y.l) #[] #[] := hg2
    have hus : RepL F as (c.args.toList.map a.eval) := by
      obtain ⟨h1, h2⟩ := allO_some y3
      refine ⟨by simp [h1], fun i x u hxi hui => ?_⟩
      simp only [List.getElem?_map, Option.map_eq_some_iff] at hui
      obtain ⟨b, hb, rfl⟩ := hui
      exact PV.toT_rep (h2 i b x hb hxi) (hρ b)
    have hcnt : cntOf σ.heap = k := by unfold cntOf; rw [y4]
    rw [hcnt] at hJ
    obtain ⟨fn, tmps, assign, body, hy1, hy2⟩ := hY n F G w _ k as y5 y6 hJ H.agree (fun b hb => (hid b hb).1) hus
    have hmap : (c.args.map a.eval) = (c.args.toList.map a.eval).toArray := by apply Array.ext'; simp
    have hrun : (do let d ← resolve a.eval c o.type; invoke d.target d.args : Sem Next).run P w = .ok (.round Y.l fn tmps assign body) w := by
      simp only [Sem.run_bind, resolve, y1, hg3, Deferred.ofValue, Sem.run_pure, Result.andThen_ok, invoke, hmap]
      have e : #[] ++ (c.args.toList.map a.eval).toArray = (c.args.toList.map a.eval).toArray := by simp
      rw [e]; exact hy1
    rw [he, hrun]
    refine ⟨fun e => (by cases e), roundIn_any (hy2.mono fun e w' hpost => ?_)⟩
    obtain ⟨F', G', rfl, p1, p2, p3, p4, p5, p6, p7⟩ := hpost
    subst y8
    have hlive : ∀ j, (wr σ.heap [(0, .cnt (k + 1))] j).live = true → wr σ.heap [(0, .cnt (k + 1))] j = σ.heap j ∧ (σ.heap j).live = true := by
      intro j lj
      by_cases e : j = 0
      · subst e; rw [show wr σ.heap [(0, .cnt (k + 1))] 0 = .cnt (k + 1) from upo_same σ.heap 0 _] at lj; cases lj
      · have : wr σ.heap [(0, .cnt (k + 1))] j = σ.heap j := upo_other _ _ e
        rw [this] at lj ⊢; exact ⟨rfl, lj⟩
    have hap : ∀ j, (σ.heap j).live = true → ¬ G (φ j).1 := fun j lj hg => (hid _ hg).2.1 ⟨j, lj, rfl⟩
    have hs : HStep φ φ σ.heap (wr σ.heap [(0, .cnt (k + 1))]) := by
      have := HStep.one (φ := φ) (h := σ.heap) (id := 0) (o := .cnt (k + 1)) (φ 0) (by rw [y4]; exact ⟨k + 1, rfl⟩)
      rwa [upd_self] at this
    have H2 : RH P C F' φ (wr σ.heap [(0, .cnt (k + 1))]) w' := by
      refine ⟨p3, Fz.le_trans H.more p2, fun a u h1 h2 => ?_, fun j => ?_, fun i j li lj e => H.inj i j (hlive i li).2 (hlive j lj).2 e, fun i li => H.high i (hlive i li).2, ?_, H.step.trans hs⟩
      · cases hFa : F a with
        | some v => exact H.news a v hFa h2
        | none =>
          rcases p4 a u h1 hFa with h3 | h3
          · exact .inl (Nat.le_trans H.bel.size h3)
          · exact (hid _ h3).2.2
      · cases ho2 : (wr σ.heap [(0, .cnt (k + 1))] j).live with
        | false => cases hh : wr σ.heap [(0, .cnt (k + 1))] j <;> first | trivial | (rw [hh] at ho2; cases ho2) | (rw [hh] at ho2; intro h0; simp [PO.live] at ho2; omega)
        | true =>
          obtain ⟨e1, e2⟩ := hlive j ho2
          rw [e1]
          refine (H.objs j).step (fun _ => rfl) hs p2 (fun lj i => ?_) (fun lj => p5.block _ (H.blk lj) (hap j lj))
          cases hFa : F ⟨(φ j).1, i, none⟩ with
          | some v => exact p2 _ _ hFa
          | none =>
            cases hFb : F' ⟨(φ j).1, i, none⟩ with
            | none => rfl
            | some v =>
              rcases p4 _ _ hFb hFa with h3 | h3
              · have := H.blk lj; exact absurd (show w.heap.size ≤ (φ j).1 from h3) (by omega)
              · exact absurd h3 (hap j lj)
      · refine ⟨p5.os.trans H.bel.os, p5.tape.trans H.bel.tape, p5.output.trans H.bel.output, Nat.le_trans H.bel.size p5.size, fun q hq he => ?_⟩
        rw [p5.block q (Nat.lt_of_lt_of_le hq H.bel.size) (fun hg => by
          rcases (hid q hg).2.2 with h3 | h3
          · omega
          · exact he h3)]
        exact H.bel.block q hq he
    have hown : ∀ b, own φ (wr σ.heap [(0, .cnt (k + 1))]) b → own φ σ.heap b := fun b ⟨i, li, e⟩ => ⟨i, (hlive i li).2, e⟩
    have hblk : ∀ b, own φ σ.heap b → b < w.heap.size := fun b ⟨i, li, e⟩ => e ▸ H.blk li
    have e0 : wr σ.heap [(0, .cnt (k + 1))] 0 = .cnt (k + 1) := upo_same σ.heap 0 _
    have e3 : cntOf (wr σ.heap [(0, .cnt (k + 1))]) = k + 1 := by unfold cntOf; rw [e0]
    refine hK _ _ (R_put (G := G') H2 (hr.step p2 hs) (fun b hb => ⟨p7 b hb, fun ho => ?_, ?_⟩) ⟨hm.1, fun d hd => ?_⟩ (by rw [e3]; exact p1) (condW_true ?_))
    · have ho' := hown b ho
      rcases p6 b hb with h3 | h3
      · exact (hid b h3).2.1 ho'
      · have := hblk b ho'; omega
    · rcases p6 b hb with h3 | h3
      · exact (hid b h3).2.2
      · exact .inl (Nat.le_trans H.bel.size h3)
    · obtain ⟨D, e, h1, h2, h3, h4⟩ := hm.2 d hd
      have hlt := lt_of_block h2
      refine ⟨D, e, h1, (p5.block D hlt h4).trans h2, fun ho => h3 (hown D ho), fun hg => ?_⟩
      rcases p6 D hg with h5 | h5
      · exact h4 h5
      · omega
    · rw [y7]; exact RepT.bool _

/-- ONE OPERATION. -/
theorem step_sim {l : Option Nat} {n : Nat} (hY : YOk P J Y) (hst : Stable C.w0.heap.size C.E J) {ops : Array Oper} {o : Oper} {σ σ' : PS} {W : Wr} {f : Foot} {a : Act} {K : Act → World → Prop} {Q : Exit → Act → World → Prop}
    (hs : OpStep P Y ops o σ σ' W f) (hR : R P C J σ a w) (hK : ∀ a' w', R P C J σ' a' w' → K a' w') :
    if Region.wanted o (yielded ops a.tmps) = true then o.wpIn (Fr l) n P a w K Q else (∀ f, o.about P w a.eval = some f → (Fr l).fn f) ∧ K (a.put o.dst undef) w := by
  obtain ⟨F, φ, G, H, hr, hid, hm, hJ⟩ := hR
  obtain ⟨b, v, rid, hg, hv, hskip, rfl⟩ := hs
  rw [guard_sim hr hg]
  cases b with
  | false =>
    have e := hskip rfl
    subst e
    simp only [Bool.false_eq_true, if_false]
    refine ⟨fun _ _ => trivial, hK _ _ (R_put H hr hid hm hJ ?_)⟩
    have hg' : o.guard ≠ none := by
      intro e
      unfold guardO at hg
      rw [e] at hg; cases hg
    unfold condW
    split
    · rename_i e; exact absurd e hg'
    · exact ⟨fun e => (by cases e), fun _ => rfl⟩
  | true =>
    simp only [if_true]
    have hρ := seenBy_rep (o := o) (b := true) rfl fun x => eval_rep (a := a) hr x
    rcases hv rfl with hv0 | ⟨ids, Wf, W0, f0, hcl, hw, hv0, rfl, rfl⟩
    · exact op_sim hY hst H hr hid hm hJ hρ hv0 hK
    · obtain ⟨F1, H1, l1, s1⟩ := RH.freezeRows ids H.here hw
      obtain ⟨t1, t2, t3⟩ := surr hst H hid hm hJ H1
      have hc : ∀ id ∈ ids, ∀ v cells e sz, σ.heap id = .grow v cells e sz → ∀ c ∈ cells, ∀ j ∈ idsG c, j ∈ ids := by
        intro id hid v cells e sz hh c hcc j hj
        unfold closedG at hcl
        rw [List.all_eq_true] at hcl
        have := hcl id hid
        rw [hh] at this
        simp only [List.all_eq_true, List.mem_flatMap, List.contains_eq_mem, decide_eq_true_eq] at this
        exact this j ⟨c, hcc, hj⟩
      have hcnt : cntOf (wr σ.heap Wf) = cntOf σ.heap := cntOf_wr Wf _ fun x o hx => by
        obtain ⟨q1, q2⟩ := (freezeW_loc ids ids (fun _ h => h) (fun _ _ => rfl) hc hw).2 x o hx
        exact ⟨freezeW_nocnt ids hw x q1, q2⟩
      have hr1 : RTm F1 φ (wr σ.heap Wf) σ.tmps a.tmps := hr.step l1 s1
      refine op_sim (σ := ⟨σ.tmps, wr σ.heap Wf⟩) hY hst (H.trans H1) hr1 t1 t2 (by show J (cntOf (wr σ.heap Wf)) F1 G w; rw [hcnt]; exact t3) (ρ := seenF (wr σ.heap Wf) ids (seenBy o true σ.eval)) (fun x => ?_) hv0 (fun a' w' hR => hK a' w' ?_)
      · have hx := seenBy_rep (o := o) (b := true) rfl (fun x => eval_rep (σ := ⟨σ.tmps, wr σ.heap Wf⟩) (a := a) hr1 x) x
        unfold seenF
        split
        · exact thawP_rep (H.trans H1) hx
        · exact hx
      · rw [wr_append]; exact hR

end Go.Pm
