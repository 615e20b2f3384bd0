/- The pure machine, part Q: a walk through code is so. -/
import Derived.Test.YtgofljmnlfnlnaaQmP
namespace Go.Pm
open Go Go.RowKit

variable {P : Program}

theorem arrives_loop {r : Option Nat} {n : Nat} {c : Code} {Q : Exit → Act → World → Prop} {A : Type} (I : A → Act → World → Prop) (μ : A → Nat)
    (round : ∀ x a w, I x a w → c.wpIn (Fr r) n P (Exit.then (fun a' w' => ∃ x', I x' a' w' ∧ μ x' < μ x) Q) a w) {x0 : A} {a : Act} {w : World} (h0 : I x0 a w) : (Code.loop c).wpIn (Fr r) n P Q a w := by
  intro b k cs hro hb hr
  have key : ∀ j x a w, μ x = j → I x a w →
      ∃ e a' w', Q e a' w' ∧ ArrivesIn (Machine.fenced P (Fr r)) P (lone (b.atR a (.code c :: .inLoop c :: k)) cs w) b k cs e a' w' := by
    intro j
    induction j using Nat.strongRecOn with
    | _ j ih =>
      intro x a w hn hI
      obtain ⟨e, a₁, w₁, hq, harr⟩ := round x a w hI b (.inLoop c :: k) cs hro hb hr
      cases e with
      | normal =>
        obtain ⟨x', hI₁, hlt⟩ := hq
        obtain ⟨e₂, a₂, w₂, hq₂, harr₂⟩ := ih (μ x') (hn ▸ hlt) x' a₁ w₁ rfl hI₁
        exact ⟨e₂, a₂, w₂, hq₂, .of_steps (StepsIn.trans harr (.one (fenced_calm hb hr rfl) stepR_inLoop)) harr₂⟩
      | exit id => exact ⟨_, a₁, w₁, hq, .pass (x := .inLoop c) rfl (fun _ _ => .inl (by simp)) harr⟩
      | goto l => exact ⟨_, a₁, w₁, hq, .pass (x := .inLoop c) rfl (fun _ _ => .inl (by simp)) harr⟩
      | ret => exact ⟨_, a₁, w₁, hq, .pass (x := .inLoop c) rfl (fun _ _ => .inl (by simp)) harr⟩
      | panic ch => exact ⟨_, a₁, w₁, hq, .pass (x := .inLoop c) rfl (fun _ _ => .inl (by simp)) harr⟩
      | outgrown => exact ⟨_, a₁, w₁, hq, .pass (x := .inLoop c) rfl (fun _ _ => .inl (by simp)) harr⟩
  obtain ⟨e, a', w', hq, harr⟩ := key _ x0 a w rfl h0
  exact ⟨e, a', w', hq, .of_steps (.one (fenced_calm hb hr rfl) stepR_loop) harr⟩



theorem stepR_scope' {b : Frame} {a : Act} {k : List Item} {cs : List Frame} {w : World} {c : Code} : step P (lone (b.atR a (.code (.scope c) :: k)) cs w) = .next (lone (b.atR a (.code c :: .inScope c :: k)) cs w) :=
  step_lone_go (by simp [stepG, stepG.exec, Frame.atR])
theorem stepR_inScope' {b : Frame} {a : Act} {k : List Item} {cs : List Frame} {w : World} {c : Code} : step P (lone (b.atR a (.inScope c :: k)) cs w) = .next (lone (b.atR a k) cs w) :=
  step_lone_go (by simp [stepG, stepG.exec, Frame.atR])
def noGotoQ (Q : Exit → Act → World → Prop) : Exit → Act → World → Prop
  | .goto _, _, _ => False
  | e, a, w => Q e a w
theorem wpIn_scope_s {F : Fence} {n : Nat} {Q : Exit → Act → World → Prop} {a : Act} {w : World} {c : Code} (h : c.wpIn F n P (noGotoQ Q) a w) : (Code.scope c).wpIn F n P Q a w := by
  intro b k cs hro hb hr
  have h0 : (lone (b.atR a (.code (.scope c) :: k)) cs w).fenced P F := fenced_calm hb hr rfl
  obtain ⟨e, a₁, w₁, hq, harr⟩ := h b (.inScope c :: k) cs hro hb hr
  cases e with
  | normal => exact ⟨.normal, a₁, w₁, hq, .head h0 stepR_scope' (StepsIn.trans harr (.one (fenced_calm hb hr rfl) stepR_inScope'))⟩
  | exit id' =>
    have hx : exitTo id' (.inScope c :: k) = exitTo id' k := by simp [exitTo]
    exact ⟨.exit id', a₁, w₁, hq, fun k' hk => .head h0 stepR_scope' (harr.1 k' (by rw [hx]; exact hk)),
      fun hr' hk => let ⟨k₁, h1, h2⟩ := harr.2 hr' (by rw [hx]; exact hk); ⟨k₁, h1, .head h0 stepR_scope' h2⟩⟩
  | goto l => exact hq.elim
  | ret => exact ⟨_, a₁, w₁, hq, .of_steps (.one h0 stepR_scope') harr⟩
  | panic ch => exact ⟨_, a₁, w₁, hq, .of_steps (.one h0 stepR_scope') harr⟩
  | outgrown => exact ⟨_, a₁, w₁, hq, .of_steps (.one h0 stepR_scope') harr⟩

/-- A WALK IS SO. -/
theorem pwp_sound (hm : P.follows .mixedOrders = true) : ∀ (c : Code) (X : PX) (Q : Exit → PS → Prop) (r : Option Nat) (n : Nat) (C : Cx) (J : Gh) (σ : PS) (a : Act) (w : World),
    YOk P J X.Y → Stable C.w0.heap.size C.E J → (∀ id, X.k ≤ id → C.h0 id = .res) → (r.isSome = true → X.inr = true) → pwp P X c Q σ → R P C J σ a w → c.wpIn (Fr r) n P (liftQ P C J Q) a w
  | .skip, X, Q, r, n, C, J, σ, a, w, hY, hst, hk, hr, h, hR => wpIn_skip ⟨σ, h, hR⟩
  | .label _, X, Q, r, n, C, J, σ, a, w, hY, hst, hk, hr, h, hR => wpIn_label ⟨σ, h, hR⟩
  | .region id ops draw, X, Q, r, n, C, J, σ, a, w, hY, hst, hk, hr, h, hR => by
    cases draw with
    | false => exact wpIn_region (pops_sound hY hst _ _ _ _ a w h hR fun σ' fs a' w' hk hr => ⟨σ', hk.2, hr⟩)
    | true =>
      have hRd : R P C J σ a w.drew := by
        obtain ⟨F, φ, G, H, hr, hid, hm, hJ⟩ := hR
        have H' : RH P (loc w F φ σ.heap) F φ σ.heap w.drew := H.here.drew
        obtain ⟨s1, s2, s3⟩ := surr hst H hid hm hJ H'
        exact ⟨F, φ, G, H.trans H', hr, s1, s2, s3⟩
      refine wpIn_region_any hm (draw_sound (K := Q .normal) hY hst ?_ hRd fun σ' a' w' hk hr => ⟨σ', hk, hr⟩)
      have h' : pops P X.Y ops (List.range ops.size) σ [] (fun σ' fs => ((true = true) → drawOk ops fs = true) ∧ Q .normal σ') := h
      simpa using h'
  | .seq x y, X, Q, r, n, C, J, σ, a, w, hY, hst, hk, hr, h, hR => by
    refine wpIn_seq (wpIn_mono (pwp_sound hm x X _ r n C J σ a w hY hst hk hr h hR) fun e a' w' he => ?_)
    obtain ⟨s, hs, hr'⟩ := he
    cases e with
    | normal => exact pwp_sound hm y X Q r n C J s a' w' hY hst hk hr hs hr'
    | _ => exact ⟨s, hs, hr'⟩
  | .cond c x y, X, Q, r, n, C, J, σ, a, w, hY, hst, hk, hr, h, hR => by
    obtain ⟨t, ht, h1, h2⟩ := h
    obtain ⟨F, φ, G, H, hrr, _⟩ := id hR
    have he := eval_rep hrr c
    rw [ht] at he
    have hv : a.eval c = .bool t := RepT.bool_inv he
    refine wpIn_cond hv ?_
    cases t with
    | true => exact pwp_sound hm x X Q r n C J σ a w hY hst hk hr (h1 rfl) hR
    | false => exact pwp_sound hm y X Q r n C J σ a w hY hst hk hr (h2 rfl) hR
  | .block id c, X, Q, r, n, C, J, σ, a, w, hY, hst, hk, hr, h, hR => by
    refine wpIn_block (wpIn_mono (pwp_sound hm c X _ r n C J σ a w hY hst hk hr h hR) fun e a' w' he => ?_)
    obtain ⟨s, hs, hr'⟩ := he
    cases e with
    | exit id' =>
      simp only [blockQ] at hs
      simp only [Exit.inBlock]
      split
      · rename_i hi; rw [if_pos hi] at hs; exact ⟨s, hs, hr'⟩
      · rename_i hi; rw [if_neg hi] at hs; exact ⟨s, hs, hr'⟩
    | _ => exact ⟨s, hs, hr'⟩
  | .loop c, X, Q, r, n, C, J, σ, a, w, hY, hst, hk, hr, h, hR => by
    obtain ⟨A, S, μ, x0, h0, hround⟩ := h
    refine arrives_loop (fun x a w => R P C J (S x) a w) μ (fun x a w hI => wpIn_mono (pwp_sound hm c X _ r n C J (S x) a w hY hst hk hr (hround x) hI) fun e a' w' he => ?_) (h0 C J a w hst hk hR)
    obtain ⟨s, hs, hr'⟩ := he
    cases e with
    | normal => obtain ⟨x', hw, hlt⟩ := hs; exact ⟨x', hw C J a' w' hst hk hr', hlt⟩
    | _ => exact ⟨s, hs, hr'⟩
  | .exit id, X, Q, r, n, C, J, σ, a, w, hY, hst, hk, hr, h, hR => wpIn_exit ⟨σ, h, hR⟩
  | .ret, X, Q, r, n, C, J, σ, a, w, hY, hst, hk, hr, h, hR => wpIn_ret ⟨σ, h, hR⟩
  | .rangeFunc g ps assign body, X, Q, r, n, C, J, σ, a, w, hY, hst, hk, hr, h, hR => by
    obtain ⟨hin, f, pre, caps, xs, T, S, k, m, stop, e, h1, h2, h3, h4, h5, h6, h7, h8, h9, h10, h11⟩ := h
    have hrn : r = none := by
      cases r with
      | none => rfl
      | some l => have := hr rfl; rw [hin] at this; cases this
    subst hrn
    obtain ⟨F, φ, G, H, hrr, hid, hmk, hJ⟩ := h1 C J a w hst hk hR
    have hg := eval_rep hrr g
    rw [h2] at hg
    have hg' : RepT F (.fn f pre caps) (a.eval g) := hg
    generalize hu : a.eval g = u at hg'
    cases hg' with
    | fn _ _ _ vs us hlv hrepv hl hrep =>
    refine wpIn_rangeFunc fun fn _ => ?_
    obtain ⟨rec, hrec⟩ : ∃ rec : LoopState → Option Code → Loop, rec = fun st pe => { state := st, pending := pe, fn, tmps := a.tmps, params := ps, assign, body, defers := w.heap.size } := ⟨_, rfl⟩
    have hrec' : ∀ st pe, rec st pe = { state := st, pending := pe, fn, tmps := a.tmps, params := ps, assign, body, defers := w.heap.size } := fun st pe => by rw [hrec]
    obtain ⟨W1, hW1⟩ : ∃ W1, (w.alloc (.deferred (some []))).alloc (.loop (rec .ready none)) = W1 := ⟨_, rfl⟩
    have hL1 : W1.heap[w.heap.size + 1]? = some (.loop (rec .ready none)) := by
      rw [← hW1]; have := World.alloc_heap_new (w.alloc (.deferred (some []))) (.loop (rec .ready none)); rwa [World.size_alloc] at this
    have hK1 : W1.heap[w.heap.size]? = some (.deferred (some [])) := by
      rw [← hW1]; exact (Below.heap_alloc _ _ _ (by simp)).trans (World.alloc_heap_new w _)
    have hsz1 : W1.heap.size = w.heap.size + 2 := by rw [← hW1]; simp
    have hb1 : Below w.heap.size w W1 := by
      rw [← hW1]; exact ((Below.refl _ w).alloc (Nat.le_refl _) _).alloc (by simp) _
    have H1 : RH P (loc w F φ (S 0)) F φ (S 0) W1 := H.here.grow (Fz.le_refl _) (fun a u hu => by
      have hc := H.agree _ _ hu
      have := cell_lt hc
      have hbb := hb1.block a.block (by omega)
      unfold World.cell? at hc ⊢; rw [hbb]; exact hc) (fun a u e1 e2 => by rw [e1] at e2; cases e2) hb1
    obtain ⟨fnn, hfn, hbody, hname⟩ := h3.1
    have hcall : ∀ us : Array Value, (callFunc f us).run P W1 = .ok (.enter f us) W1 := by
      intro us
      simp only [callFunc, Sem.run_bind, run_program, Result.andThen_ok, hfn, hname, hbody, Bool.false_eq_true, if_false, Sem.run_pure]
    refine ⟨w.heap.size + 1, [{ target := .collected w.heap.size, args := #[] }], W1, { target := .fn (.func f) us.toArray, args := vs.toArray ++ #[.func (.yield (w.heap.size + 1)) #[] #[]] }, W1, f,
      (vs ++ .func (.yield (w.heap.size + 1)) #[] #[] :: us).toArray, W1, ?_, ?_, ?_, ?_, ?_, ?_⟩
    · rw [← hW1, hrec]; exact run_enterLoop_outer _ _ _ _ _
    · have e0 : a.eval g = .func (.func f) vs.toArray us.toArray := hu
      simp only [resolve, rangeCall, e0]
      simp [Deferred.ofValue, Act.eval]
    · intro f' _; trivial
    · simp only [invoke]
      have e : vs.toArray ++ #[Value.func (.yield (w.heap.size + 1)) #[] #[]] ++ us.toArray = (vs ++ Value.func (.yield (w.heap.size + 1)) #[] #[] :: us).toArray := by apply Array.ext'; simp
      rw [e]; exact hcall _
    · intro h; cases h
    · have hJ0 : JLoop P w F φ S (w.heap.size + 1) w.heap.size m stop e rec 0 F (fun b => own φ (S 0) b ∨ b = w.heap.size + 1 ∨ b = w.heap.size) W1 := by
        refine ⟨φ, H1, ?_, hK1, fun b hb => .inl hb, fun b hb => .inl hb, .inr (.inl rfl), .inr (.inr rfl), ?_⟩
        · rw [if_neg (fun hc => by have := (h7 hc.1).1; omega)]; exact hL1
        · rintro b (⟨id, li, hb⟩ | rfl | rfl)
          · have := H.blk li; omega
          · omega
          · omega
      have hyok := round_sound (P := P) (w := w) (F := F) (φ := φ) (S := S) (T := T) (l := w.heap.size + 1) (D := w.heap.size) (m := m) (k := k) (stop := stop) (e := e) (rec := rec) (xs := xs) (ps := ps) (fn := fn) (tm := a.tmps) (assign := assign) (body := body)
        hrec' (by omega) (by omega) (Nat.le_refl _) hrr h4 h7
        (fun n C J Q σ a w' q1 q2 q3 q4 => pwp_sound hm assign ⟨noY, k, true⟩ Q (some (w.heap.size + 1)) n C J σ a w' noY_ok q1 q2 (fun _ => rfl) q3 q4)
        (fun n C J Q σ a w' q1 q2 q3 q4 => pwp_sound hm body ⟨noY, k, true⟩ Q (some (w.heap.size + 1)) n C J σ a w' noY_ok q1 q2 (fun _ => rfl) q3 q4)
        h8 h10
      have hstab := JLoop.stable (P := P) (w := w) (F := F) (φ := φ) S (w.heap.size + 1) w.heap.size m stop e rec W1.heap.size (by omega) (by omega) (Nat.le_refl _)
      refine callsIn_any ((h3.2 m stop h5 (fun hs => (h6 hs).1) (fun hs => (h7 hs).1) _ (w.heap.size + 1) W1 F _ vs us hstab hyok H1.agree ?_ ⟨hlv, hrepv⟩ ⟨hl, hrep⟩ hJ0).mono fun en w' hpost => ?_)
      · rintro b (⟨id, li, hb⟩ | rfl | rfl)
        · have := H.blk li; omega
        · omega
        · omega
      · obtain ⟨u, F', G', rfl, ⟨φ', H2, hl2, hD2, g1, g2, g3, g4, g5⟩, _, _, _⟩ := hpost
        have hend := run_endLoop (P := P) hl2 (by
          rw [hrec]; split <;> simp)
        have H3 : RH P (loc w F φ (S 0)) F' φ' (S m) (w'.putObj (w.heap.size + 1) (.loop { (if stop = true ∧ m = m then rec .done (jumpOf e) else rec .ready none) with state := .exhausted })) := H2.putObj hl2 rfl (.inl (by show w.heap.size ≤ _; omega))
        obtain ⟨s1, s2, s3⟩ := surr hst H hid hmk hJ H3
        have hD3 : (w'.putObj (w.heap.size + 1) (.loop { (if stop = true ∧ m = m then rec .done (jumpOf e) else rec .ready none) with state := .exhausted })).heap[w.heap.size]? = some (.deferred (some [])) := (World.putObj_heap_other (by omega)).trans hD2
        have hRm : R P C J ⟨T, S m⟩ { a with defers := [{ target := .collected w.heap.size, args := #[] }] ++ a.defers } (w'.putObj (w.heap.size + 1) (.loop { (if stop = true ∧ m = m then rec .done (jumpOf e) else rec .ready none) with state := .exhausted })) := by
          refine ⟨F', φ', G, H.trans H3, hrr.step H3.more H3.step, s1, ⟨?_, fun d hd => ?_⟩, ?_⟩
          · simp only [List.cons_append, List.nil_append, List.nodup_cons]
            refine ⟨fun hd => ?_, hmk.1⟩
            obtain ⟨D, e1, _, e2, _⟩ := hmk.2 _ hd
            have hlt := lt_of_block e2
            simp at e1; omega
          · rcases List.mem_cons.1 hd with rfl | hd
            · refine ⟨w.heap.size, rfl, H.bel.size, hD3, fun ho => ?_, fun hg => ?_⟩
              · obtain ⟨o2, e1, e2⟩ := own_cells H3 ho
                rw [hD3] at e1; cases e1; cases e2
              · have := (hid _ hg).1; omega
            · exact s2.2 d hd
          · rw [h9 m]; exact s3
        refine ⟨_, _, hend, ?_⟩
        cases hs : stop with
        | false =>
          have e1 := (h6 hs).2
          rw [if_neg (by simp), hrec]
          subst e1
          subst hs
          rw [hrec] at hRm
          exact ⟨_, h11, by simpa using hRm⟩
        | true =>
          have e1 := (h7 hs).2
          subst hs
          rw [if_pos ⟨rfl, rfl⟩, hrec]
          rw [if_pos ⟨rfl, rfl⟩, hrec] at hRm
          cases e with
          | ret => exact wpIn_ret ⟨_, h11, hRm⟩
          | exit id => exact wpIn_exit ⟨_, h11, hRm⟩
          | goto t => exact wpIn_goto ⟨_, h11, hRm⟩
          | _ => cases e1
  | .scope c, X, Q, r, n, C, J, σ, a, w, hY, hst, hk, hr, h, hR => by
    refine wpIn_scope_s (wpIn_mono (pwp_sound hm c X _ r n C J σ a w hY hst hk hr h hR) fun e a' w' he => ?_)
    obtain ⟨s, hs, hr'⟩ := he
    cases e with
    | goto l => exact hs.elim
    | _ => exact ⟨s, hs, hr'⟩
  | .goto .., X, Q, r, n, C, J, σ, a, w, hY, hst, hk, hr, h, hR => h.elim
  | .refuse .., X, Q, r, n, C, J, σ, a, w, hY, hst, hk, hr, h, hR => h.elim

end Go.Pm
