/- The pure machine, part P: a walk through code is so. -/
import Derived.Test.YtgofljmnlfnlnaaQmO
namespace Go.Pm
open Go Go.RowKit

variable {P : Program} {C : Cx} {F F' : Fz} {φ φ' : Nat → Nat × Nat} {h h' : Hp} {w w' : World} {J : Gh}

/-- A round's surroundings: the loop's record, the block for deferred calls. -/
def JRound (l D : Nat) (rec : Loop) : Gh := fun _ _ G w => G = (fun b => b = l ∨ b = D) ∧ w.heap[l]? = some (.loop rec) ∧ w.heap[D]? = some (.deferred (some []))
theorem JRound.stable (l D : Nat) (rec : Loop) (B : Nat) (E : Nat → Prop) : Stable B E (JRound l D rec) := by
  rintro i F G w F' w' ⟨rfl, h1, h2⟩ _ _ _ _ _ _ _ hb
  exact ⟨rfl, (hb l (lt_of_block h1) (.inl (.inl rfl))).trans h1, (hb D (lt_of_block h2) (.inl (.inr rfl))).trans h2⟩

def jumpOf : Exit → Option Code
  | .ret => some .ret
  | .exit id => some (.exit id)
  | .goto t => some (.goto t)
  | _ => none
theorem jumpOf_some {e : Exit} (h : isJump e = true) : (jumpOf e).isNone = false := by cases e <;> simp [isJump, jumpOf] at *

/-- What an iterator relies on, while it goes round: the loop's record; its objects as they are between two rounds. -/
def JLoop (P : Program) (w : World) (F : Fz) (φ : Nat → Nat × Nat) (S : Nat → Hp) (l D m : Nat) (stop : Bool) (e : Exit) (rec : LoopState → Option Code → Loop) : Gh := fun i F1 G1 w1 => ∃ φ1,
  RH P (loc w F φ (S 0)) F1 φ1 (S i) w1 ∧ w1.heap[l]? = some (.loop (if stop = true ∧ i = m then rec .done (jumpOf e) else rec .ready none)) ∧ w1.heap[D]? = some (.deferred (some [])) ∧
  (∀ b, own φ1 (S i) b → G1 b) ∧ (∀ b, own φ (S 0) b → G1 b) ∧ G1 l ∧ G1 D ∧ ∀ b, G1 b → b < w1.heap.size

theorem JLoop.stable (S : Nat → Hp) (l D m : Nat) (stop : Bool) (e : Exit) (rec : LoopState → Option Code → Loop) (B : Nat) (hB : w.heap.size ≤ B) (hl : w.heap.size ≤ l) (hD : w.heap.size ≤ D) :
    Stable B (fun b => own φ (S 0) b ∨ b = l ∨ b = D) (JLoop P w F φ S l D m stop e rec) := by
  rintro i F1 G1 w1 F' w' ⟨φ1, H, h1, h2, h3, h4, h5, h6, h7⟩ hF hag hnew hos htape hout hsz hb
  have hE : ∀ b, (own φ (S 0) b ∨ b = l ∨ b = D) → G1 b := by
    rintro b (hb | rfl | rfl)
    · exact h4 b hb
    · exact h5
    · exact h6
  refine ⟨φ1, ⟨hag, Fz.le_trans H.more hF, fun a u a1 a2 => ?_, fun id => ?_, H.inj, H.high, ⟨hos.trans H.bel.os, htape.trans H.bel.tape, hout.trans H.bel.output, Nat.le_trans H.bel.size hsz, fun k hk he => ?_⟩, H.step⟩,
    (hb l (lt_of_block h1) (.inl h5)).trans h1, (hb D (lt_of_block h2) (.inl h6)).trans h2, h3, h4, h5, h6, fun b hg => Nat.lt_of_lt_of_le (h7 b hg) hsz⟩
  · cases hFa : F1 a with
    | some v => exact H.news a v hFa a2
    | none =>
      obtain ⟨b1, b2⟩ := hnew a u a1 hFa
      rcases b1 with b1 | b1
      · exact .inl (Nat.le_trans hB b1)
      · exact absurd (hE _ b1) b2
  · refine (H.objs id).step (fun _ => rfl) (HStep.refl _ _) hF (fun li j => ?_) (fun li => hb _ (H.blk li) (.inl (h3 _ ⟨id, li, rfl⟩)))
    cases hFa : F1 ⟨(φ1 id).1, j, none⟩ with
    | some v => exact hF _ _ hFa
    | none =>
      cases hFb : F' ⟨(φ1 id).1, j, none⟩ with
      | none => rfl
      | some v => exact absurd (h3 _ ⟨id, li, rfl⟩) (hnew _ _ hFb hFa).2
  · have hk' : k < w.heap.size := hk
    refine (hb k (Nat.lt_of_lt_of_le hk' H.bel.size) (.inr ⟨by omega, ?_⟩)).trans (H.bel.block k hk he)
    rintro (hb | rfl | rfl)
    · exact he hb
    · omega
    · omega

/-- R in smaller surroundings: where the walk within a round begins. -/
theorem R_round {T : List PV} {S : Hp} {tm : Array Value} {l D : Nat} {rec : Loop} (H : RH P C F φ S w) (hr : RTm F φ S T tm) (hl : w.heap[l]? = some (.loop rec)) (hD : w.heap[D]? = some (.deferred (some []))) :
    R P ⟨w, F, S, φ, fun b => own φ S b ∨ b = l ∨ b = D⟩ (JRound l D rec) ⟨T, S⟩ { tmps := tm, defers := [] } w := by
  refine ⟨F, φ, fun b => b = l ∨ b = D, ⟨H.agree, Fz.le_refl _, fun a u h1 h2 => (by rw [show F a = none from h2] at h1; cases h1), H.objs, H.inj, fun i li => .inr (.inl ⟨i, li, rfl⟩), Bel.refl _ _, HStep.refl _ _⟩, hr, fun b hb => ?_, ⟨List.nodup_nil, fun d hd => by cases hd⟩, rfl, hl, hD⟩
  rcases hb with rfl | rfl
  · exact ⟨lt_of_block hl, (fun ho => by obtain ⟨o2, h1, h2⟩ := own_cells H ho; rw [hl] at h1; cases h1; cases h2), .inr (.inr (.inl rfl))⟩
  · exact ⟨lt_of_block hD, (fun ho => by obtain ⟨o2, h1, h2⟩ := own_cells H ho; rw [hD] at h1; cases h1; cases h2), .inr (.inr (.inr rfl))⟩

/-- The record turns. -/
theorem R_turn {σ : PS} {a : Act} {l D : Nat} {rec rec' : Loop} (hne : l ≠ D) (hE : C.E l) (hR : R P C (JRound l D rec) σ a w) : R P C (JRound l D rec') σ a (w.putObj l (.loop rec')) := by
  obtain ⟨F, φ, G, H, hr, hid, hm, hG, hl, hD⟩ := hR
  refine ⟨F, φ, G, H.putObj hl rfl (.inr hE), hr, fun b hb => ⟨by simpa using (hid b hb).1, (hid b hb).2.1, (hid b hb).2.2⟩, ?_, hG, World.putObj_heap_same (lt_of_block hl), (World.putObj_heap_other (Ne.symm hne)).trans hD⟩
  refine ⟨hm.1, fun d hd => ?_⟩
  obtain ⟨D', e, h1, h2, h3, h4⟩ := hm.2 d hd
  exact ⟨D', e, h1, (World.putObj_heap_other (fun e' => h4 (by rw [hG, e']; exact .inl rfl))).trans h2, h3, h4⟩

theorem RH.wider (H : RH P C F φ h w) {E : Nat → Prop} (hE : ∀ b, C.E b → E b) : RH P ⟨C.w0, C.F0, C.h0, C.φ0, E⟩ F φ h w :=
  ⟨H.agree, H.more, fun a u h1 h2 => (H.news a u h1 h2).imp id (hE _), H.objs, H.inj, fun i li => (H.high i li).imp id (hE _), ⟨H.bel.os, H.bel.tape, H.bel.output, H.bel.size, fun k hk he => H.bel.block k hk fun hc => he (hE k hc)⟩, H.step⟩

theorem R_heap {σ : PS} {a : Act} (hR : R P C J σ a w) : R P C J ⟨[], σ.heap⟩ { tmps := #[], defers := a.defers } w := by
  obtain ⟨F, φ, G, H, hr, hid, hm, hJ⟩ := hR
  exact ⟨F, φ, G, H, ⟨rfl, fun i p u h1 => by simp at h1⟩, hid, hm, hJ⟩

/-- ONE ROUND. -/
theorem round_sound {S : Nat → Hp} {T : List PV} {l D m k : Nat} {stop : Bool} {e : Exit} {rec : LoopState → Option Code → Loop} {xs : List (List TV)} {ps : Array Tmp} {fn : FuncId} {tm : Array Value} {assign body : Code}
    (hrec : ∀ st pe, rec st pe = { state := st, pending := pe, fn, tmps := tm, params := ps, assign, body, defers := D }) (hlD : l ≠ D) (hl0 : w.heap.size ≤ l) (hD0 : w.heap.size ≤ D)
    (hr : RTm F φ (S 0) T tm) (hlen : ∀ x ∈ xs, x.length = ps.size) (hstop : stop = true → 0 < m ∧ isJump e = true)
    (ih1 : ∀ (n : Nat) (C : Cx) (J : Gh) (Q : Exit → PS → Prop) (σ : PS) (a : Act) (w : World), Stable C.w0.heap.size C.E J → (∀ id, k ≤ id → C.h0 id = .res) → pwp P ⟨noY, k, true⟩ assign Q σ → R P C J σ a w → assign.wpIn (Fr (some l)) n P (liftQ P C J Q) a w)
    (ih2 : ∀ (n : Nat) (C : Cx) (J : Gh) (Q : Exit → PS → Prop) (σ : PS) (a : Act) (w : World), Stable C.w0.heap.size C.E J → (∀ id, k ≤ id → C.h0 id = .res) → pwp P ⟨noY, k, true⟩ body Q σ → R P C J σ a w → body.wpIn (Fr (some l)) n P (liftQ P C J Q) a w)
    (hk : ∀ i id, k ≤ id → S i id = .res)
    (hround : ∀ i x, i < m → xs[i]? = some x → pwp P ⟨noY, k, true⟩ assign (seqQ (pwp P ⟨noY, k, true⟩ body fun e' s' => (e' = if stop = true ∧ i + 1 = m then e else .normal) ∧ Weak P k ⟨[], s'.heap⟩ ⟨[], S (i + 1)⟩) fun _ _ => False) ⟨setPs T ps.toList x, S i⟩) :
    YOk P (JLoop P w F φ S l D m stop e rec) ⟨l, xs, m, stop⟩ := by
  intro n F1 G1 w1 us i x hi hx hJ hag hG1 hus
  have hi : i < m := hi
  have hx : xs[i]? = some x := hx
  obtain ⟨φ1, H, hl, hD, g1, g2, g3, g4, g5⟩ := hJ
  have hst : ¬ (stop = true ∧ i = m) := fun hc => by omega
  rw [if_neg hst] at hl
  have hsz : us.toArray.size = (rec .ready none).params.size := by
    rw [hrec]; simp only [List.size_toArray]; rw [hus.1]; exact hlen x (List.mem_of_getElem? hx)
  have hy := run_yield (P := P) (args := us.toArray) hl hsz
  refine ⟨_, _, _, _, hy, ?_⟩
  refine roundIn_of_wpIn trivial ?_
  have hT : RTm F1 φ1 (S i) (setPs T ps.toList x) (((rec .ready none).params.zip us.toArray).foldl (fun tmps (t, a) => tmps.setIfInBounds t a) (rec .ready none).tmps) := by
    have := (hr.step H.more H.step).setPs ps.toList x us hus
    rw [hrec]
    have e : ps.zip us.toArray = (ps.toList.zip us).toArray := by apply Array.ext'; simp
    simp only [e, List.foldl_toArray]
    exact this
  have hR := R_round H hT hl hD
  let Cr : Cx := ⟨w1, F1, S i, φ1, fun b => own φ1 (S i) b ∨ b = l ∨ b = D⟩
  have h1 := ih1 n Cr (JRound l D (rec .ready none)) _ _ _ _ (JRound.stable l D _ _ _) (hk i) (hround i x hi hx) hR
  have e0 : (rec .ready none).assign = assign ∧ (rec .ready none).body = body := by rw [hrec]; exact ⟨rfl, rfl⟩
  rw [e0.1, e0.2]
  refine wpIn_mono h1 fun e1 a1 w2 h2 => ?_
  obtain ⟨s, hs, hR2⟩ := h2
  cases e1 with
  | normal =>
    have hlw2 : w2.heap[l]? = some (.loop (rec .ready none)) := by obtain ⟨_, _, _, _, _, _, _, _, h5, _⟩ := hR2; exact h5
    refine ⟨_, run_beginRound hlw2 (by rw [hrec]), ?_⟩
    have hR3 := R_turn (rec' := { rec .ready none with state := .busy }) hlD (show Cr.E l from .inr (.inl rfl)) hR2
    have h3 := ih2 n Cr (JRound l D _) _ _ _ _ (JRound.stable l D _ _ _) (hk i) hs hR3
    refine wpIn_mono h3 fun e2 a2 w3 h4 => ?_
    obtain ⟨s', ⟨he, hw⟩, hR4⟩ := h4
    have hR5 := hw Cr _ _ _ (JRound.stable l D _ _ _) (hk i) (R_heap hR4)
    obtain ⟨F2, φ2, G2, H2, _, hid2, _, hG2, hl3, hD3⟩ := hR5
    have hE : ∀ b, Cr.E b → G1 b := by
      rintro b (hb | rfl | rfl)
      · exact g1 b hb
      · exact g3
      · exact g4
    have hE2 : ∀ b, Cr.E b → w.heap.size ≤ b ∨ own φ (S 0) b := by
      rintro b (⟨id, li, hb⟩ | rfl | rfl)
      · rw [← hb]; exact H.high id li
      · exact .inl hl0
      · exact .inl hD0
    have fin : ∀ jump : Option Code, jump = jumpOf e2 → (stop = true ∧ i + 1 = m → jump.isNone = false) → (¬ (stop = true ∧ i + 1 = m) → jump = none) →
        ∃ v w', (Instr.endRound l jump).run P w3 = .ok v w' ∧ (fun en w' => ∃ F' G', en = Ending.returned (.bool (!(stop && i + 1 == m))) ∧ JLoop P w F φ S l D m stop e rec (i + 1) F' G' w' ∧ F1.le F' ∧ (∀ a u, F' a = some u → w'.cell? a = some u) ∧
          (∀ a u, F' a = some u → F1 a = none → w1.heap.size ≤ a.block ∨ G1 a.block) ∧ Bel G1 w1 w' ∧ (∀ b, G' b → G1 b ∨ w1.heap.size ≤ b) ∧ ∀ b, G' b → b < w'.heap.size) (.returned v) w' := by
      intro jump hj hj1 hj2
      have hend := run_endRound (P := P) jump hl3
      refine ⟨_, _, hend, F2, fun b => G1 b ∨ own φ2 (S (i + 1)) b, ?_, ?_, H2.more, ?_, fun a u a1 a2 => (H2.news a u a1 a2).imp id (hE _), ?_, ?_, ?_⟩
      · congr 2
        by_cases hc : stop = true ∧ i + 1 = m
        · rw [hj1 hc]; simp [hc.1, hc.2]
        · rw [hj2 hc]
          cases hs : stop with
          | false => simp
          | true => have : ¬ i + 1 = m := fun h => hc ⟨hs, h⟩; simp [this]
      · have H3 : RH P Cr F2 φ2 (S (i + 1)) (w3.putObj l (.loop { { rec .ready none with state := .busy } with state := if jump.isNone then .ready else .done, pending := jump })) := H2.putObj hl3 rfl (.inr (.inr (.inl rfl)))
        refine ⟨φ2, H.transE (E := Cr.E) hE2 H3, ?_, (World.putObj_heap_other (Ne.symm hlD)).trans hD3, fun b hb => .inr hb, fun b hb => .inl (g2 b hb), .inl g3, .inl g4, ?_⟩
        · rw [World.putObj_heap_same (lt_of_block hl3)]
          congr 2
          by_cases hc : stop = true ∧ i + 1 = m
          · rw [if_pos hc, hj1 hc, hrec, hrec]
            simp only [Bool.false_eq_true, if_false]
            rw [hj]
            have : e2 = e := by rw [if_pos hc] at he; exact he
            rw [this]
          · rw [if_neg hc, hj2 hc, hrec]
            rfl
        · rintro b (hb | ⟨id, li, hb⟩)
          · have := H2.bel.size; simp only [World.putObj_size]; exact Nat.lt_of_lt_of_le (g5 b hb) this
          · rw [← hb]; simp only [World.putObj_size]; exact H2.blk li
      · exact (H2.putObj hl3 rfl (.inr (.inr (.inl rfl)))).agree
      · have hb := H2.bel
        refine ⟨hb.os, hb.tape, hb.output, by simpa using hb.size, fun q hq he => ?_⟩
        rw [World.putObj_heap_other (fun e' => he (by rw [e']; exact g3))]
        exact hb.block q hq fun hc => he (hE q hc)
      · rintro b (hb | ⟨id, li, hb⟩)
        · exact .inl hb
        · rw [← hb]
          rcases H2.high id li with h5 | h5
          · exact .inr h5
          · exact .inl (hE _ h5)
      · rintro b (hb | ⟨id, li, hb⟩)
        · have := H2.bel.size; simp only [World.putObj_size]; exact Nat.lt_of_lt_of_le (g5 b hb) this
        · rw [← hb]; simp only [World.putObj_size]; exact H2.blk li
    have hjump : stop = true ∧ i + 1 = m → (jumpOf e2).isNone = false := fun hc => by
      rw [if_pos hc] at he; rw [he]; exact jumpOf_some (hstop hc.1).2
    have hnorm : ¬ (stop = true ∧ i + 1 = m) → e2 = .normal := fun hc => by rw [if_neg hc] at he; exact he
    cases e2 with
    | normal => exact fin none rfl hjump (fun _ => rfl)
    | ret => exact fin (some .ret) rfl hjump (fun hc => by cases hnorm hc)
    | exit id => exact fin (some (.exit id)) rfl hjump (fun hc => by cases hnorm hc)
    | goto t => exact fin (some (.goto t)) rfl hjump (fun hc => by cases hnorm hc)
    | panic ch =>
      by_cases hc : stop = true ∧ i + 1 = m
      · have := hjump hc; simp [jumpOf] at this
      · cases hnorm hc
    | outgrown =>
      by_cases hc : stop = true ∧ i + 1 = m
      · have := hjump hc; simp [jumpOf] at this
      · cases hnorm hc
  | _ => exact hs.elim

end Go.Pm
