/- The pure machine, part L: an operation hangs on what it looks at alone. -/
import Derived.Test.YtgofljmnlfnlnaaQmK
namespace Go.Pm
open Go Go.RowKit

variable {P : Program} {C : Cx} {F F' : Fz} {φ φ' φ'' : Nat → Nat × Nat} {h h' h'' : Hp} {w w' : World}

/-- What is written lies in the footprint; no number of rounds is written. -/
def WOk (h : Hp) (W : Wr) (f : Foot) : Prop := ∀ x o, (x, o) ∈ W → x ∈ f.1 ∧ f.2 = true ∧ (∀ n, h x ≠ .cnt n) ∧ ∀ n, o ≠ .cnt n
theorem WOk.nil (f : Foot) : WOk h [] f := fun x o hx => by cases hx
theorem WOk.one {x : Nat} {o : PO} {f : Foot} (h1 : x ∈ f.1) (h2 : f.2 = true) (h3 : ∀ n, h x ≠ .cnt n) (h4 : ∀ n, o ≠ .cnt n) : WOk h [(x, o)] f := fun y p hy => by
  simp at hy; obtain ⟨rfl, rfl⟩ := hy; exact ⟨h1, h2, h3, h4⟩

theorem srcG_congr {sz : Nat} {x : PV} {g : Hp} (hg : ∀ id ver sz' o n f, x = .gsl id ver sz' o n f → g id = h id) : srcG sz x g = srcG sz x h := by
  cases x <;> first | rfl | (rename_i id ver sz' o n f; simp only [srcG, hg id ver sz' o n f rfl])
theorem fresh_loc {mu : Bool} {cs : List PV} {n sz rid : Nat} {e : TypeId} {v : PV} {W : Wr} {f : Foot} (hx : freshO mu cs n e sz rid = some (v, W)) (h1 : rid ∈ f.1) (h2 : f.2 = true) (h3 : isRes (h rid) = true) : WOk h W f := by
  unfold freshO at hx
  split at hx
  · cases hx; exact WOk.one h1 h2 (fun n => by rw [isRes_iff.1 h3]; simp) (by simp)
  · simp only [Option.map_eq_some_iff] at hx
    obtain ⟨xs, _, he⟩ := hx
    simp only [Prod.mk.injEq] at he
    rw [← he.2]; exact WOk.one h1 h2 (fun n => by rw [isRes_iff.1 h3]; simp) (by simp)

theorem append_loc {mu : Bool} {t t' : TypeId} {s x v : PV} {rid : Nat} {W : Wr} (hv : appendG P mu t t' s x h rid = some (v, W)) :
    WOk h W (sfoot s x rid, true) ∧ ∀ g : Hp, (∀ y ∈ sfoot s x rid, g y = h y) → appendG P mu t t' s x g rid = some (v, W) := by
  have hsrc : ∀ (g : Hp), (∀ y ∈ sfoot s x rid, g y = h y) → ∀ sz, srcG sz x g = srcG sz x h := fun g hg sz => srcG_congr fun id ver sz' o n f e => hg id (by subst e; simp [sfoot])
  unfold appendG at hv ⊢
  split at hv
  · rename_i htt
    simp only [htt, if_true]
    split at hv
    · cases hv
    · rename_i e he
      split at hv
      · cases hv
      · rename_i sz by_ hsm
        split at hv
        · cases hv
        · rename_i ds m hs0
          split at hv
          · split at hv
            · rename_i hm; cases hv
              exact ⟨WOk.nil _, fun g hg => by simp [htt ▸ he, hsm, hsrc g hg, hs0, hm]⟩
            · rename_i hm
              split at hv
              · rename_i hc
                refine ⟨fresh_loc hv (by simp [sfoot]) rfl hc.2, fun g hg => ?_⟩
                have := hg rid (by simp [sfoot])
                simp [htt ▸ he, hsm, hsrc g hg, hs0, hm, this, hc, hv]
              · cases hv
          · rename_i cs n
            split at hv
            · rename_i hlen
              split at hv
              · rename_i hm; cases hv
                exact ⟨WOk.nil _, fun g hg => by simp [htt ▸ he, hsm, hsrc g hg, hs0, hm, hlen]⟩
              · rename_i hm
                split at hv
                · rename_i hc
                  refine ⟨fresh_loc hv (by simp [sfoot]) rfl hc.2, fun g hg => ?_⟩
                  have := hg rid (by simp [sfoot])
                  simp [htt ▸ he, hsm, hsrc g hg, hs0, hm, this, hc, hlen, hv]
                · cases hv
            · cases hv
          · rename_i id ver sz' o n
            split at hv
            · rename_i cells hgc
              split at hv
              · rename_i hlen
                split at hv
                · rename_i hm; cases hv
                  refine ⟨WOk.nil _, fun g hg => ?_⟩
                  have := hg id (by simp [sfoot])
                  simp [htt ▸ he, hsm, hsrc g hg, hs0, hm, hlen, this, hgc]
                · rename_i hm
                  split at hv
                  · rename_i hc
                    refine ⟨fresh_loc hv (by simp [sfoot]) rfl hc.2, fun g hg => ?_⟩
                    have := hg rid (by simp [sfoot])
                    have h2 := hg id (by simp [sfoot])
                    simp only [htt ▸ he, hsm, hsrc g hg, hs0, hm, this, h2, hgc, hc, hlen, hv, if_true, if_false, and_self]
                  · cases hv
              · cases hv
            · cases hv
          · rename_i id ver sz' n
            split at hv
            · rename_i cells hgc
              split at hv
              · rename_i hlen
                split at hv
                · rename_i hm; cases hv
                  refine ⟨WOk.nil _, fun g hg => ?_⟩
                  have := hg id (by simp [sfoot])
                  simp [htt ▸ he, hsm, hsrc g hg, hs0, hm, hlen, this, hgc]
                · rename_i hm
                  split at hv
                  · rename_i hc
                    cases hv
                    refine ⟨WOk.one (by simp [sfoot]) rfl (fun n => by rw [growIs_eq hgc]; simp) (by simp), fun g hg => ?_⟩
                    have h2 := hg id (by simp [sfoot])
                    simp only [htt ▸ he, hsm, hsrc g hg, hs0, hm, h2, hgc, hc, hlen, if_true, if_false, and_self]
                  · cases hv
              · cases hv
            · cases hv
          · rename_i cs n id
            split at hv
            · rename_i ds' hds
              split at hv
              · rename_i hlen
                split at hv
                · rename_i hm; cases hv
                  refine ⟨WOk.nil _, fun g hg => ?_⟩
                  have := hg id (by simp [sfoot])
                  simp [htt ▸ he, hsm, hsrc g hg, hs0, hm, hlen, this, hds]
                · rename_i hm
                  split at hv
                  · rename_i hc; cases hv
                    refine ⟨WOk.one (by simp [sfoot]) rfl (fun n => by rw [tokIs_eq hlen.2]; simp) (by simp), fun g hg => ?_⟩
                    have a1 := hg id (by simp [sfoot])
                    simp [htt ▸ he, hsm, hsrc g hg, hs0, hm, a1, hc, hlen, hds]
                  · cases hv
              · cases hv
            · cases hv
          · cases hv
  · cases hv

theorem update_loc {t : TypeId} {m k x v : PV} {W : Wr} (hv : updateO P t m k x h = some (v, W)) :
    WOk h W (mfoot m, true) ∧ ∀ g : Hp, (∀ y ∈ mfoot m, g y = h y) → updateO P t m k x g = some (v, W) := by
  unfold updateO at hv
  split at hv
  · rename_i id k' x' hk hx
    split at hv
    · rename_i t' f hid
      split at hv
      · rename_i hc
        cases hv
        refine ⟨WOk.one (by simp [mfoot]) rfl (fun n => by rw [hid]; simp) (by simp), fun g hg => ?_⟩
        have := hg id (by simp [mfoot])
        unfold updateO
        simp only [hk, hx, this, hid, hc, and_self, if_true]
      · cases hv
    · cases hv
  · cases hv

def NoW (x : Option (PV × Wr)) : Prop := ∀ v W, x = some (v, W) → W = []
theorem nw_none : NoW none := fun v W h => by cases h
theorem nw_some (p : PV) : NoW (some (p, [])) := fun v W h => by simp at h; exact h.2
theorem nw_map {α : Type} (f : α → PV) (x : Option α) : NoW (x.map fun a => (f a, [])) := fun v W h => by
  cases x with
  | none => cases h
  | some a => simp at h; exact h.2
theorem nw_bind {α : Type} {x : Option α} {g : α → Option (PV × Wr)} (h : ∀ a, NoW (g a)) : NoW (x.bind g) := fun v W e => by
  cases x with
  | none => cases e
  | some a => exact h a v W e
theorem pop_loc {op : Op} {ρ : Operand → PV} {rid : Nat} {v : PV} {W : Wr} (hp : pop P op ρ h rid = some (v, W)) :
    WOk h W (footO op ρ rid) ∧ ∀ g : Hp, (∀ x ∈ (footO op ρ rid).1, g x = h x) → pop P op ρ g rid = some (v, W) := by
  have quiet : (∀ g : Hp, pop P op ρ g rid = pop P op ρ h rid) → (∀ v W, pop P op ρ h rid = some (v, W) → W = []) →
      WOk h W (footO op ρ rid) ∧ ∀ g : Hp, (∀ x ∈ (footO op ρ rid).1, g x = h x) → pop P op ρ g rid = some (v, W) := by
    intro hq hw
    have := hw v W hp; subst this
    exact ⟨WOk.nil _, fun g _ => by rw [hq g, hp]⟩
  cases op with
  | alloc e =>
    simp only [pop] at hp
    cases hz : zeroL P e with
    | none => rw [hz] at hp; simp at hp
    | some z =>
      rw [hz] at hp; simp only [Option.bind_some] at hp
      split at hp
      · rename_i hres
        simp at hp; obtain ⟨rfl, rfl⟩ := hp
        refine ⟨WOk.one (by simp [footO]) rfl (fun n => by rw [isRes_iff.1 hres]; simp) (by simp), fun g hg => ?_⟩
        have := hg rid (by simp [footO])
        simp [pop, hz, this, hres]
      · cases hp
  | box e x =>
    simp only [pop] at hp
    cases hz : pcells (ρ x) with
    | none => rw [hz] at hp; simp at hp
    | some z =>
      rw [hz] at hp; simp only [Option.bind_some] at hp
      split at hp
      · rename_i hres
        simp at hp; obtain ⟨rfl, rfl⟩ := hp
        refine ⟨WOk.one (by simp [footO]) rfl (fun n => by rw [isRes_iff.1 hres]; simp) (by simp), fun g hg => ?_⟩
        have := hg rid (by simp [footO])
        simp [pop, hz, this, hres]
      · cases hp
  | makeSlice t l c =>
    simp only [pop] at hp
    split at hp
    · rename_i kl l' kc c' hl hc
      split at hp
      · rename_i e he
        split at hp
        · rename_i sz by_ z hsm hz
          split at hp
          · rename_i hcond
            simp only [Option.some.injEq, Prod.mk.injEq] at hp; obtain ⟨rfl, rfl⟩ := hp
            refine ⟨WOk.one (by simp [footO]) rfl (fun n => by rw [isRes_iff.1 hcond.2.2.2.1]; simp) (by simp), fun g hg => ?_⟩
            have := hg rid (by simp [footO])
            simp only [pop, hl, hc, he, hsm, hz, this]
            rw [if_pos hcond]
          · cases hp
        · cases hp
      · cases hp
    · cases hp
  | makeMap t r =>
    cases r with
    | some r => simp [pop] at hp
    | none =>
      simp only [pop] at hp
      split at hp
      · rename_i km hm
        split at hp
        · rename_i hres
          simp only [Option.some.injEq, Prod.mk.injEq] at hp; obtain ⟨rfl, rfl⟩ := hp
          refine ⟨WOk.one (by simp [footO]) rfl (fun n => by rw [isRes_iff.1 hres]; simp) (by simp), fun g hg => ?_⟩
          have := hg rid (by simp [footO])
          simp only [pop, hm, this]
          rw [if_pos hres]
        · cases hp
      · cases hp
  | mapUpdate t m k x => exact update_loc hp
  | insert t m k x => exact update_loc hp
  | lookup t m k ok =>
    have hw : W = [] := by
      simp only [pop] at hp
      split at hp
      · split at hp
        · split at hp
          · simp only [Option.some.injEq, Prod.mk.injEq] at hp; exact hp.2.symm
          · cases hp
        · cases hp
      · split at hp
        · split at hp
          · simp only [Option.some.injEq, Prod.mk.injEq] at hp; exact hp.2.symm
          · cases hp
        · cases hp
      · cases hp
    subst hw
    refine ⟨WOk.nil _, fun g hg => ?_⟩
    rw [← hp]
    cases hm : ρ m with
    | mapr id =>
      have := hg id (by simp [footO, hm, mfoot])
      simp only [pop, hm]
      generalize (ρ k).toT = a
      generalize mapO P t = b
      cases a <;> cases b <;> first | rfl | simp only [this]
    | t x =>
      simp only [pop, hm]
      generalize (ρ k).toT = a
      generalize mapO P t = b
      cases x <;> cases a <;> cases b <;> rfl
    | _ => simp only [pop, hm]
  | load t a =>
    simp only [pop] at hp ⊢
    cases ha : ρ a with
    | gptr id ver off =>
      rw [ha] at hp
      have hf : (footO (.load t a) ρ rid) = ([id], false) := by simp [footO, ha]
      rw [hf]
      refine ⟨?_, fun g hg => ?_⟩
      · simp only [Option.bind_eq_some_iff, Option.map_eq_some_iff] at hp; obtain ⟨_, _, y, _, he⟩ := hp; simp at he; rw [he.2]; exact WOk.nil _
      · have := hg id (by simp)
        simp only [this]; exact hp
    | ptr id off =>
      rw [ha] at hp
      have hf : (footO (.load t a) ρ rid) = ([id], false) := by simp [footO, ha]
      rw [hf]
      refine ⟨?_, fun g hg => ?_⟩
      · simp only at hp
        split at hp
        · simp only [Option.map_eq_some_iff] at hp; obtain ⟨y, _, he⟩ := hp; simp at he; rw [he.2]; exact WOk.nil _
        · simp only [Option.map_eq_some_iff] at hp; obtain ⟨y, _, he⟩ := hp; simp at he; rw [he.2]; exact WOk.nil _
        · cases hp
      · have := hg id (by simp)
        simp only [this]; exact hp
    | t x =>
      rw [ha] at hp
      have hf : (footO (.load t a) ρ rid) = ([], false) := by simp [footO, ha]
      rw [hf]
      refine ⟨?_, fun g hg => by cases x <;> exact hp⟩
      cases x <;> simp only [Option.map_eq_some_iff, reduceCtorEq] at hp
      obtain ⟨y, _, he⟩ := hp; simp at he; rw [he.2]; exact WOk.nil _
    | _ => rw [ha] at hp; cases hp
  | store t a x =>
    simp only [pop] at hp
    cases ha : ρ a with
    | gptr id ver off =>
      rw [ha] at hp
      cases hb : h id with
      | grow v' cells e sz =>
        simp only [hb] at hp
        split at hp
        · rename_i hv
          simp only [Option.map_eq_some_iff] at hp
          obtain ⟨y, hy, he⟩ := hp
          simp at he; obtain ⟨rfl, rfl⟩ := he
          refine ⟨WOk.one (by simp [footO, ha]) (by simp [footO, ha]) (fun n => by rw [hb]; simp) (by simp), fun g hg => ?_⟩
          have := hg id (by simp [footO, ha])
          simp [pop, ha, this, hb, hy, hv]
        · cases hp
      | _ => simp [hb] at hp
    | ptr id off =>
      rw [ha] at hp
      cases hb : h id with
      | box cells =>
        simp only [hb, Option.map_eq_some_iff] at hp
        obtain ⟨y, hy, he⟩ := hp
        simp at he; obtain ⟨rfl, rfl⟩ := he
        refine ⟨WOk.one (by simp [footO, ha]) (by simp [footO, ha]) (fun n => by rw [hb]; simp) (by simp), fun g hg => ?_⟩
        have := hg id (by simp [footO, ha])
        simp [pop, ha, this, hb, hy]
      | _ => simp [hb] at hp
    | _ => rw [ha] at hp; cases hp
  | call c =>
    obtain ⟨callee, args, ts⟩ := c
    cases callee with
    | builtin b =>
      by_cases hb : b = .append
      · subst hb
        simp only [pop, popB] at hp
        split at hp
        · rename_i heq _ _; cases heq
        · rename_i heq; cases heq
        · rename_i heq; cases heq
        · rename_i t t' s x _ hts hargs
          obtain ⟨e2, e3⟩ := append_loc hp
          have hf : (footO (.call { callee := .builtin .append, args := args, argTypes := ts }) ρ rid) = (sfoot s x rid, true) := by
            simp only [footO, hargs]
          rw [hf]
          refine ⟨e2, fun g hg => ?_⟩
          simp only [pop, popB, hts, hargs]
          exact e3 g hg
        · cases hp
      · refine quiet (fun g => ?_) (fun v W hh => ?_)
        · simp only [pop, popB]
          split
          · rfl
          · rfl
          · rfl
          · exact absurd rfl hb
          · rfl
        · revert v W hh
          show NoW _
          simp only [pop, popB]
          split
          · repeat' (first | exact nw_none | exact nw_some _ | exact nw_map _ _ | (refine nw_bind fun _ => ?_) | split)
          · repeat' (first | exact nw_none | exact nw_some _ | exact nw_map _ _ | (refine nw_bind fun _ => ?_) | split)
          · repeat' (first | exact nw_none | exact nw_some _ | exact nw_map _ _ | (refine nw_bind fun _ => ?_) | split)
          · exact absurd rfl hb
          · exact nw_none
    | value g => simp [pop] at hp
    | invoke r n => simp [pop] at hp
  | move x => exact quiet (fun g => rfl) (by show NoW _; simp only [pop]; (repeat' (first | exact nw_none | exact nw_some _ | exact nw_map _ _ | (refine nw_bind fun _ => ?_) | split)))
  | assign x => exact quiet (fun g => rfl) (by show NoW _; simp only [pop]; (repeat' (first | exact nw_none | exact nw_some _ | exact nw_map _ _ | (refine nw_bind fun _ => ?_) | split)))
  | pick c a b => exact quiet (fun g => rfl) (by show NoW _; simp only [pop]; (repeat' (first | exact nw_none | exact nw_some _ | exact nw_map _ _ | (refine nw_bind fun _ => ?_) | split)))
  | build t ps => exact quiet (fun g => rfl) (by show NoW _; simp only [pop]; (repeat' (first | exact nw_none | exact nw_some _ | exact nw_map _ _ | (refine nw_bind fun _ => ?_) | split)))
  | buildSlice t n ps => exact quiet (fun g => rfl) (by show NoW _; simp only [pop]; (repeat' (first | exact nw_none | exact nw_some _ | exact nw_map _ _ | (refine nw_bind fun _ => ?_) | split)))
  | nilCheck x => exact quiet (fun g => rfl) (by show NoW _; simp only [pop]; (repeat' (first | exact nw_none | exact nw_some _ | exact nw_map _ _ | (refine nw_bind fun _ => ?_) | split)))
  | binOp op xt x y yt => exact quiet (fun g => rfl) (by show NoW _; simp only [pop]; (repeat' (first | exact nw_none | exact nw_some _ | exact nw_map _ _ | (refine nw_bind fun _ => ?_) | split)))
  | unOp op xt x => exact quiet (fun g => rfl) (by show NoW _; simp only [pop]; (repeat' (first | exact nw_none | exact nw_some _ | exact nw_map _ _ | (refine nw_bind fun _ => ?_) | split)))
  | convert src dst x => exact quiet (fun g => rfl) (by show NoW _; simp only [pop]; (repeat' (first | exact nw_none | exact nw_some _ | exact nw_map _ _ | (refine nw_bind fun _ => ?_) | split)))
  | makeInterface t x => exact quiet (fun g => rfl) (by show NoW _; simp only [pop]; (repeat' (first | exact nw_none | exact nw_some _ | exact nw_map _ _ | (refine nw_bind fun _ => ?_) | split)))
  | fieldAddr s x f => exact quiet (fun g => rfl) (by show NoW _; simp only [pop]; (repeat' (first | exact nw_none | exact nw_some _ | exact nw_map _ _ | (refine nw_bind fun _ => ?_) | split)))
  | field s x f => exact quiet (fun g => rfl) (by show NoW _; simp only [pop]; (repeat' (first | exact nw_none | exact nw_some _ | exact nw_map _ _ | (refine nw_bind fun _ => ?_) | split)))
  | indexAddr t x i => exact quiet (fun g => rfl) (by show NoW _; simp only [pop]; (repeat' (first | exact nw_none | exact nw_some _ | exact nw_map _ _ | (refine nw_bind fun _ => ?_) | split)))
  | index t x i => exact quiet (fun g => rfl) (by show NoW _; simp only [pop]; (repeat' (first | exact nw_none | exact nw_some _ | exact nw_map _ _ | (refine nw_bind fun _ => ?_) | split)))
  | slice t x lo hi mx => exact quiet (fun g => rfl) (by show NoW _; simp only [pop]; (repeat' (first | exact nw_none | exact nw_some _ | exact nw_map _ _ | (refine nw_bind fun _ => ?_) | split)))
  | extract x i => exact quiet (fun g => rfl) (by show NoW _; simp only [pop]; (repeat' (first | exact nw_none | exact nw_some _ | exact nw_map _ _ | (refine nw_bind fun _ => ?_) | split)))
  | makeFunc fn fi caps =>
    refine quiet (fun g => by cases fn <;> rfl) ?_
    show NoW _
    cases fn <;> simp only [pop] <;> (repeat' (first | exact nw_none | exact nw_some _ | exact nw_map _ _ | (refine nw_bind fun _ => ?_) | split))
  | _ => simp [pop] at hp

theorem allO_congr {α β : Type} {f g : α → Option β} {l : List α} (h : ∀ x ∈ l, f x = g x) : allO (l.map f) = allO (l.map g) := by rw [List.map_congr_left h]

theorem popF_loc {op : Op} {ρ : Operand → PV} {v : PV} {W : Wr} {ids : List Nat} (hp : popF op ρ h = some (v, W, ids)) :
    WOk h W (ids, true) ∧ ∀ g : Hp, (∀ x ∈ ids, g x = h x) → popF op ρ g = some (v, W, ids) := by
  cases op with
  | makeFunc fn first caps =>
    cases fn with
    | func f =>
      simp only [popF] at hp ⊢
      split at hp
      · cases hp
      rename_i hf
      split at hp
      · rename_i is his
        simp only [Option.map_eq_some_iff] at hp
        obtain ⟨cs, hcs, he⟩ := hp
        simp at he; obtain ⟨rfl, rfl, rfl⟩ := he
        refine ⟨fun x o hx => ?_, fun g hg => ?_⟩
        · obtain ⟨p, hp, e⟩ := List.mem_map.1 hx
          simp at e; obtain ⟨rfl, rfl⟩ := e
          obtain ⟨h1, h2⟩ := List.of_mem_zip hp
          refine ⟨h1, rfl, fun n hn => ?_, by simp⟩
          obtain ⟨i, hi, e⟩ := List.getElem_of_mem h1
          obtain ⟨b, _, hb⟩ := allO_at hcs (List.getElem?_eq_getElem hi)
          rw [e] at hb; unfold frozenO at hb; rw [hn] at hb; cases hb
        · have : allO (is.map (frozenO g)) = allO (is.map (frozenO h)) := allO_congr fun x hx => by unfold frozenO; rw [hg x hx]
          simp [hf, his, this, hcs]
      · cases hp
    | _ => simp [popF] at hp
  | _ => simp [popF] at hp

theorem pop_congr {op : Op} {ρ ρ' : Operand → PV} {h : Hp} {rid : Nat} (hρ : ∀ x ∈ op.operands, ρ x = ρ' x) : pop P op ρ h rid = pop P op ρ' h rid := by
  cases op with
  | build t ps =>
    have : partsO ρ ps = partsO ρ' ps := by
      unfold partsO; exact allO_congr fun p hp => by rw [hρ p.2 (by simp only [Op.operands]; exact List.mem_toArray.2 (List.mem_map.2 ⟨p, hp, rfl⟩))]
    simp only [pop, this]
  | buildSlice t n ps =>
    have : partsO ρ ps = partsO ρ' ps := by
      unfold partsO; exact allO_congr fun p hp => by rw [hρ p.2 (by simp only [Op.operands]; exact List.mem_toArray.2 (List.mem_map.2 ⟨p, hp, rfl⟩))]
    simp only [pop, this]
  | makeFunc fn fi caps =>
    have hc : ∀ c ∈ caps.toList, ρ c = ρ' c := fun c hc => hρ c (by simp [Op.operands]; exact .inr (by simpa using hc))
    have hf : ∀ c ∈ fi.toList, ρ c = ρ' c := fun c hc => hρ c (by simp [Op.operands]; exact .inl (by simpa using hc))
    have e := allO_congr (f := fun c => capId (ρ c)) (g := fun c => capId (ρ' c)) (fun c h => by rw [hc c h])
    have e2 := allO_congr (f := fun c => (ρ c).toT) (g := fun c => (ρ' c).toT) (fun c h => by rw [hf c h])
    cases fn <;> simp only [pop, e, e2]
  | slice t x lo hi mx =>
    have e : ∀ b : Option Operand, (∀ y, b = some y → ρ y = ρ' y) → b.map ρ = b.map ρ' := fun b hb => by cases b with | none => rfl | some y => simp [hb y rfl]
    have e0 := hρ x (by simp [Op.operands])
    have e1 := e lo fun y hy => hρ y (by subst hy; simp [Op.operands])
    have e2 := e hi fun y hy => hρ y (by subst hy; simp [Op.operands])
    have e3 := e mx fun y hy => hρ y (by subst hy; simp [Op.operands])
    simp only [pop, e0, e1, e2, e3]
  | makeMap t r => cases r <;> rfl
  | call c =>
    obtain ⟨callee, args, ts⟩ := c
    cases callee with
    | builtin b =>
      have e : args.toList.map ρ = args.toList.map ρ' := List.map_congr_left fun x hx => hρ x (by simp [Op.operands, Call.operands]; simpa using hx)
      simp only [pop, e]
    | value g => rfl
    | invoke r n => rfl
  | _ => simp only [Op.operands, List.mem_toArray, List.mem_cons, List.not_mem_nil, or_false, forall_eq_or_imp, forall_eq] at hρ <;> first | rfl | simp only [pop, hρ]
theorem popF_congr {op : Op} {ρ ρ' : Operand → PV} {h : Hp} (hρ : ∀ x ∈ op.operands, ρ x = ρ' x) : popF op ρ h = popF op ρ' h := by
  cases op with
  | makeFunc fn fi caps =>
    have hc : ∀ c ∈ caps.toList, ρ c = ρ' c := fun c hc => hρ c (by simp [Op.operands]; exact .inr (by simpa using hc))
    have e := allO_congr (f := fun c => capId (ρ c)) (g := fun c => capId (ρ' c)) (fun c h => by rw [hc c h])
    cases fn <;> simp only [popF, e]
  | _ => rfl
theorem popM_congr {op : Op} {ρ ρ' : Operand → PV} {h : Hp} {rid : Nat} (hρ : ∀ x ∈ op.operands, ρ x = ρ' x) : popM P op ρ h rid = popM P op ρ' h rid := by
  cases op with
  | buildSlice t n ps =>
    have : partsO ρ ps = partsO ρ' ps := by
      unfold partsO; exact allO_congr fun p hp => by rw [hρ p.2 (by simp only [Op.operands]; exact List.mem_toArray.2 (List.mem_map.2 ⟨p, hp, rfl⟩))]
    simp only [popM, this]
  | call c =>
    obtain ⟨callee, args, ts⟩ := c
    cases callee with
    | builtin b =>
      have e : args.toList.map ρ = args.toList.map ρ' := List.map_congr_left fun x hx => hρ x (by simp [Op.operands, Call.operands]; simpa using hx)
      cases b <;> simp only [popM, e]
    | value g => rfl
    | invoke r n => rfl
  | _ => rfl
theorem popM_loc {op : Op} {ρ : Operand → PV} {rid : Nat} {v : PV} {W : Wr} (hp : popM P op ρ h rid = some (v, W)) :
    WOk h W (footO op ρ rid) ∧ ∀ g : Hp, (∀ x ∈ (footO op ρ rid).1, g x = h x) → popM P op ρ g rid = some (v, W) := by
  unfold popM at hp
  split at hp
  · rename_i t n parts
    simp only [Option.bind_eq_some_iff] at hp
    obtain ⟨ps, hps, cs, hcs, hp⟩ := hp
    split at hp
    · rename_i e he
      split at hp
      · rename_i sz by_ hsm
        split at hp
        · rename_i hres
          simp only [Option.some.injEq, Prod.mk.injEq] at hp; obtain ⟨rfl, rfl⟩ := hp
          refine ⟨WOk.one (by simp [footO]) rfl (fun n => by rw [isRes_iff.1 hres]; simp) (by simp), fun g hg => ?_⟩
          have := hg rid (by simp [footO])
          simp [popM, hps, hcs, he, hsm, this, hres]
        · cases hp
      · cases hp
    · cases hp
  · rename_i args ts
    split at hp
    · rename_i t t' s x hts hargs
      obtain ⟨e2, e3⟩ := append_loc hp
      have hf : (footO (.call { callee := .builtin .append, args := args, argTypes := ts }) ρ rid) = (sfoot s x rid, true) := by
        simp only [footO, hargs]
      rw [hf]
      refine ⟨e2, fun g hg => ?_⟩
      simp only [popM, hts, hargs]
      exact e3 g hg
    · cases hp
  · cases hp
theorem popQ_loc {op : Op} {ρ : Operand → PV} {rid : Nat} {v : PV} {W : Wr} (hp : pop P op ρ h rid = some (v, W)) :
    WOk h W (footQ op ρ rid) ∧ ∀ g : Hp, (∀ x ∈ (footQ op ρ rid).1, g x = h x) → pop P op ρ g rid = some (v, W) := by
  cases op with
  | buildSlice t n ps =>
    have hw : NoW (pop P (.buildSlice t n ps) ρ h rid) := by
      simp only [pop]; (repeat' (first | exact nw_none | exact nw_some _ | exact nw_map _ _ | (refine nw_bind fun _ => ?_) | split))
    have := hw v W hp
    subst this
    exact ⟨fun x o hx => (by cases hx), fun g _ => hp⟩
  | _ => exact pop_loc hp
theorem footO_congr {op : Op} {ρ ρ' : Operand → PV} {rid : Nat} (hρ : ∀ x ∈ op.operands, ρ x = ρ' x) : footO op ρ rid = footO op ρ' rid := by
  cases op with
  | call c =>
    obtain ⟨callee, args, ts⟩ := c
    cases callee with
    | builtin b =>
      have e : args.toList.map ρ = args.toList.map ρ' := List.map_congr_left fun x hx => hρ x (by simp [Op.operands, Call.operands]; simpa using hx)
      cases b <;> first | rfl | simp only [footO, e]
    | value g => rfl
    | invoke r n => rfl
  | load t a => simp only [footO, hρ a (by simp [Op.operands])]
  | store t a x => simp only [footO, hρ a (by simp [Op.operands])]
  | mapUpdate t m k x => simp only [footO, hρ m (by simp [Op.operands])]
  | insert t m k x => simp only [footO, hρ m (by simp [Op.operands])]
  | lookup t m k ok => simp only [footO, hρ m (by simp [Op.operands])]
  | _ => rfl

theorem footQ_congr {op : Op} {ρ ρ' : Operand → PV} {rid : Nat} (hρ : ∀ x ∈ op.operands, ρ x = ρ' x) : footQ op ρ rid = footQ op ρ' rid := by
  cases op with
  | buildSlice t n ps => rfl
  | _ => exact footO_congr (rid := rid) hρ

theorem target_congr {c : Call} {ρ ρ' : Operand → PV} (hρ : ∀ x ∈ c.operands, ρ x = ρ' x) : targetO P c ρ = targetO P c ρ' := by
  have e : (c.args.toList.map fun a => normA (ρ a)) = c.args.toList.map fun a => normA (ρ' a) := List.map_congr_left fun x hx => by rw [hρ x (by simp [Call.operands]; exact .inr (by simpa using hx))]
  unfold targetO
  rw [e]
  cases hc : c.callee with
  | value g => simp only [hρ g (by simp [Call.operands, hc])]
  | invoke r n => simp only [hρ r (by simp [Call.operands, hc])]
  | builtin b => rfl

theorem opval0_loc {Y : YS} {op : Op} {ρ : Operand → PV} {h : Hp} {rid : Nat} {v : PV} {W : Wr} {f : Foot} (hv : OpVal0 P Y op ρ h rid v W f) :
    (∀ x o, (x, o) ∈ W → x ∈ f.1 ∧ f.2 = true) ∧
      ∀ (ρ' : Operand → PV) (g : Hp), (∀ x ∈ op.operands, ρ' x = ρ x) → (∀ x ∈ f.1, g x = h x) → OpVal0 P Y op ρ' g rid v W f := by
  rcases hv with (⟨hp, hf⟩ | ⟨hp, hf⟩) | ⟨ids, hp, hf⟩ | ⟨c, hop, hc | hy⟩
  · obtain ⟨w1, w2⟩ := popQ_loc hp
    subst hf
    refine ⟨fun x o hx => ⟨(w1 x o hx).1, (w1 x o hx).2.1⟩, fun ρ' g hρ hg => .inl (.inl ⟨?_, (footQ_congr hρ).symm⟩)⟩
    rw [pop_congr hρ]; exact w2 g hg
  · obtain ⟨w1, w2⟩ := popM_loc hp
    subst hf
    refine ⟨fun x o hx => ⟨(w1 x o hx).1, (w1 x o hx).2.1⟩, fun ρ' g hρ hg => .inl (.inr ⟨?_, (footO_congr hρ).symm⟩)⟩
    rw [popM_congr hρ]; exact w2 g hg
  · obtain ⟨w1, w2⟩ := popF_loc hp
    subst hf
    refine ⟨fun x o hx => ⟨(w1 x o hx).1, (w1 x o hx).2.1⟩, fun ρ' g hρ hg => .inr (.inl ⟨ids, ?_, rfl⟩)⟩
    rw [popF_congr hρ]; exact w2 g hg
  · subst hop
    obtain ⟨fn, as, as', hl, hl', v', ids, c1, c2, c3, c4, c5, c6, c7, c8, c9, c10, c11, c12⟩ := hc
    subst c12
    refine ⟨fun x o hx => ⟨?_, rfl⟩, fun ρ' g hρ hg => .inr (.inr ⟨c, rfl, .inl ⟨fn, as, as', hl, hl', v', ids, ?_, c2, c3, c4, c5, fun i j hi => ?_, c7, c8, c9, c10, c11, rfl⟩⟩)⟩
    · rw [c11] at hx
      have := renW_fst ids hl'
      rw [← this]
      exact List.mem_map.2 ⟨_, hx, rfl⟩
    · rw [target_congr hρ]; exact c1
    · rw [hg j (List.mem_of_getElem? hi)]; exact c6 i j hi
  · subst hop
    obtain ⟨g, as, k, y1, y2, y3, y4, y5, y6, y7, y8, y9⟩ := hy
    subst y9
    refine ⟨fun x o hx => ?_, fun ρ' g' hρ hg => .inr (.inr ⟨c, rfl, .inr ⟨g, as, k, y1, ?_, ?_, ?_, y5, y6, y7, y8, rfl⟩⟩)⟩
    · rw [y8] at hx; simp at hx; exact ⟨by simp [hx.1], rfl⟩
    · rw [hρ g (by simp [Op.operands, Call.operands, y1])]; exact y2
    · rw [← y3]; exact allO_congr fun x hx => by rw [hρ x (by simp [Op.operands, Call.operands]; exact .inr (by simpa using hx))]
    · rw [hg 0 (by simp)]; exact y4

/-! ### Freezing -/
theorem thawC_congr {g h : Hp} : ∀ {p : PV}, (∀ id ∈ idsG p, g id = h id) → thawC g p = thawC h p := by
  intro p hp
  cases p <;> first | rfl | (rename_i id ver sz o n full; simp only [thawC, hp id (by simp [idsG])])
theorem thawA_congr {g h : Hp} : ∀ {p : PV}, (∀ id ∈ idsG p, g id = h id) → thawA g p = thawA h p := by
  intro p
  induction p with
  | cons b p q ih1 ih2 =>
    intro hp
    simp only [thawA, thawC_congr (p := p) fun id hi => hp id (by simp [idsG, hi]), ih2 fun id hi => hp id (by simp [idsG, hi])]
  | _ => intro _; rfl
theorem thawP_congr {g h : Hp} {p : PV} (hp : ∀ id ∈ idsG p, g id = h id) : thawP g p = thawP h p := by
  cases p with
  | cons b p q => simp only [thawP, thawA_congr hp]
  | _ => simp only [thawP, thawC_congr hp]
theorem freezeO_congr {g h : Hp} {id : Nat} (h1 : g id = h id) (h2 : ∀ v cells e sz, h id = .grow v cells e sz → ∀ c ∈ cells, ∀ j ∈ idsG c, g j = h j) : freezeO g id = freezeO h id := by
  unfold freezeO
  rw [h1]
  cases hh : h id with
  | grow v cells e sz =>
    simp only
    rw [allO_congr fun c hc => thawC_congr (h2 v cells e sz hh c hc)]
  | _ => rfl
theorem freezeO_kind {h : Hp} {id : Nat} {o : PO} (hf : freezeO h id = some o) : (∃ v c e sz, o = .gro v c e sz) ∧ (∀ n, h id ≠ .cnt n) ∧ (h id).live = true := by
  unfold freezeO at hf
  split at hf
  · rename_i hid
    simp only [Option.map_eq_some_iff] at hf
    obtain ⟨cs, _, rfl⟩ := hf
    exact ⟨⟨_, _, _, _, rfl⟩, fun n => by rw [hid]; simp, by rw [hid]; rfl⟩
  · rename_i hid; cases hf; exact ⟨⟨_, _, _, _, rfl⟩, fun n => by rw [hid]; simp, by rw [hid]; rfl⟩
  · cases hf
theorem freezeW_loc (ids : List Nat) : ∀ (l : List Nat) {g h : Hp} {W : Wr}, (∀ x ∈ l, x ∈ ids) → (∀ x ∈ ids, g x = h x) → (∀ id ∈ ids, ∀ v cells e sz, h id = .grow v cells e sz → ∀ c ∈ cells, ∀ j ∈ idsG c, j ∈ ids) → freezeW h l = some W →
    freezeW g l = some W ∧ (∀ x o, (x, o) ∈ W → x ∈ l ∧ ∀ n, o ≠ .cnt n)
  | [], g, h, W, _, _, _, hw => by simp [freezeW] at hw; subst hw; exact ⟨rfl, fun x o hx => by cases hx⟩
  | id :: l, g, h, W, hl, hg, hc, hw => by
    simp only [freezeW] at hw ⊢
    have hid := hl id List.mem_cons_self
    rw [freezeO_congr (hg id hid) fun v cells e sz e1 c hcc j hj => hg j (hc id hid v cells e sz e1 c hcc j hj)]
    split at hw
    · rename_i o ho
      simp only [Option.map_eq_some_iff] at hw
      obtain ⟨W', hw', rfl⟩ := hw
      obtain ⟨⟨v, cs, e, sz, rfl⟩, _⟩ := freezeO_kind ho
      obtain ⟨e1, e2⟩ := freezeW_loc ids l (g := upo g id (.gro v cs e sz)) (h := upo h id (.gro v cs e sz)) (fun x hx => hl x (List.mem_cons_of_mem _ hx)) (fun x hx => by
        by_cases e' : x = id
        · subst e'; rw [upo_same, upo_same]
        · rw [upo_other _ _ e', upo_other _ _ e']; exact hg x hx) (fun i hi v' cells e' sz' hh => by
        unfold upo at hh
        split at hh
        · cases hh
        · exact hc i hi v' cells e' sz' hh) hw'
      simp only [e1, Option.map_some]
      exact ⟨trivial, fun x o hx => by
        rcases List.mem_cons.1 hx with e | hx
        · cases e; exact ⟨List.mem_cons_self, by simp⟩
        · exact ⟨List.mem_cons_of_mem _ (e2 x o hx).1, (e2 x o hx).2⟩⟩
    · cases hw
theorem freezeW_nocnt : ∀ (l : List Nat) {h : Hp} {W : Wr}, freezeW h l = some W → ∀ x ∈ l, ∀ n, h x ≠ .cnt n
  | [], _, _, _, x, hx => by cases hx
  | id :: l, h, W, hw, x, hx => by
    simp only [freezeW] at hw
    split at hw
    · rename_i o ho
      simp only [Option.map_eq_some_iff] at hw
      obtain ⟨W', hw', rfl⟩ := hw
      obtain ⟨_, h1, _⟩ := freezeO_kind ho
      rcases List.mem_cons.1 hx with rfl | hx
      · exact h1
      · intro n hn
        by_cases e : x = id
        · subst e; exact h1 n hn
        · exact freezeW_nocnt l hw' x hx n (by rw [upo_other _ _ e]; exact hn)
    · cases hw
theorem wr_congr0 (W : Wr) : ∀ (l l' : Hp) (x : Nat), l x = l' x → wr l W x = wr l' W x := by
  induction W with
  | nil => intro l l' x h; exact h
  | cons p W ih =>
    intro l l' x h
    refine ih _ _ x ?_
    show upo l p.1 p.2 x = upo l' p.1 p.2 x
    by_cases hx : x = p.1
    · subst hx; rw [upo_same, upo_same]
    · rw [upo_other _ _ hx, upo_other _ _ hx]; exact h

/-- AN OPERATION HANGS ON WHAT IT LOOKS AT ALONE. -/
theorem opval_loc {Y : YS} {op : Op} {ρ : Operand → PV} {h : Hp} {rid : Nat} {v : PV} {W : Wr} {f : Foot} (hv : OpVal P Y op ρ h rid v W f) :
    (∀ x o, (x, o) ∈ W → x ∈ f.1 ∧ f.2 = true) ∧
      ∀ (ρ' : Operand → PV) (g : Hp), (∀ x ∈ op.operands, ρ' x = ρ x) → (∀ x ∈ f.1, g x = h x) → OpVal P Y op ρ' g rid v W f := by
  rcases hv with hv | ⟨ids, Wf, W0, f0, hcl, hw, hv, rfl, rfl⟩
  · obtain ⟨h1, h2⟩ := opval0_loc hv
    exact ⟨h1, fun ρ' g a b => .inl (h2 ρ' g a b)⟩
  · obtain ⟨h1, h2⟩ := opval0_loc hv
    have hc : ∀ id ∈ ids, ∀ v cells e sz, h id = .grow v cells e sz → ∀ c ∈ cells, ∀ j ∈ idsG c, j ∈ ids := by
      intro id hid v cells e sz hh c hcc j hj
      unfold closedG at hcl
      rw [List.all_eq_true] at hcl
      have := hcl id hid
      rw [hh] at this
      simp only [List.all_eq_true, List.mem_flatMap, List.contains_eq_mem, decide_eq_true_eq] at this
      exact this j ⟨c, hcc, hj⟩
    refine ⟨fun x o hx => ?_, fun ρ' g a b => .inr ⟨ids, Wf, W0, f0, ?_, ?_, h2 _ _ (fun x hx => ?_) (fun x hx => wr_congr0 Wf _ _ x (b x (List.mem_append_right _ hx))), rfl, rfl⟩⟩
    · rcases List.mem_append.1 hx with hx | hx
      · exact ⟨List.mem_append_left _ ((freezeW_loc ids ids (fun _ h => h) (fun _ _ => rfl) hc hw).2 x o hx).1, rfl⟩
      · exact ⟨List.mem_append_right _ (h1 x o hx).1, rfl⟩
    · unfold closedG at hcl ⊢
      rw [List.all_eq_true] at hcl ⊢
      intro id hid
      rw [b id (List.mem_append_left _ hid)]; exact hcl id hid
    · exact (freezeW_loc ids ids (fun _ h => h) (fun x hx => b x (List.mem_append_left _ hx)) hc hw).1
    · unfold seenF
      rw [a x hx]
      split
      · rename_i hall
        rw [List.all_eq_true] at hall
        exact thawP_congr fun id hi => wr_congr0 Wf _ _ id (b id (List.mem_append_left _ (by simpa using hall id hi)))
      · rfl

end Go.Pm
