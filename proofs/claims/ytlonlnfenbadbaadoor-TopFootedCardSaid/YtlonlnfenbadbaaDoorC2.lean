/- What the claim leans on, text 2. -/
import Derived.RangeFuncNested
import Derived.OrdersIn
import Derived.OwnWalkIn
import Derived.Test.YtlonlnfenbadbaaDoorC1
set_option linter.unusedSimpArgs false
set_option linter.unusedVariables false

/- Part QmI. -/
namespace Go.Pm
open Go Go.RowKit

variable {P : Program} {C : Cx} {F F' : Fz} {φ φ' φ'' : Nat → Nat × Nat} {h h' h'' : Hp} {w w' : World}

theorem wr_one (h : Hp) (x : Nat) (o : PO) : wr h [(x, o)] = upo h x o := rfl
theorem sim_append_grow (H : RH P C F φ h w) {t ty e : TypeId} {i : TypeInfo} {z : Value} {sz by_ : Nat} (ht : P.underlying t = some (.slice e)) (hi : P.info? e = some i) (hz : i.zero = some z) (hsz : i.size = sz) (hzs : z.cells.size = sz) (hby : i.bytes = by_) (hb0 : 0 < by_)
  {id ver n m : Nat} {cells ds : List PV} {us : Value} (hid : h id = .grow ver cells e sz) (hs : RepP F φ h (.gsl id ver sz 0 n false) us) (hlen : cells.length = n * sz) {a : Addr} {c : Nat} {nu : List Value} (g1 : nu.length = m * sz) (g2 : RepG F φ h ds nu)
  (hcell : ∀ (i : Nat) (v : Value), nu[i]? = some v → w.cell? (a.add i) = some v) (hm : 0 < m) (hro : roomy (n + m) by_) :
  Sim P C h (((do pure (Next.value (← Builtin.append_ #[t, t] ty #[us, .slice (some a) m c]))) : Sem Next).run P w) (.gsl id (ver + 1) sz 0 (n + m) false) [(id, .grow (ver + 1) (cells ++ ds) e sz)] := by
 have hob := H.objs id
 rw [hid] at hob
 obtain ⟨cur, k1, k2, k3, k4, k5, k6⟩ := hob
 have hlv : (h id).live = true := by rw [hid]; rfl
 obtain ⟨v, e', cap, ad, q1, q2, rfl, q4, q5, q6, q7⟩ := hs
 rw [hid] at q1; cases q1
 obtain ⟨p1, p2, p3⟩ := q7 rfl
 have hcap : cap = (φ id).2 := by have := p3 rfl; omega
 have hmul : (n + m) * sz = n * sz + m * sz := Nat.add_mul _ _ _
 have hmax : n + m ≤ 140737488355328 := roomy_le hb0 hro
 have hst : ∀ x, HStep φ (upd φ id x) h (upo h id (.grow (ver + 1) (cells ++ ds) e sz)) := fun x => HStep.one x (by rw [hid]; exact ⟨ver + 1, rfl, by omega, fun e => by omega⟩)
 have hF : ∀ a u, F a = some u → a.block ≠ (φ id).1 := by
  intro a u hu e
  have hc := H.agree _ _ hu
  obtain ⟨b, o, s⟩ := a
  simp only at e; subst e
  cases s with
  | none => rw [k6] at hu; cases hu
  | some s => simp [look, k1] at hc
 by_cases hroom : n + m ≤ cap
 ·have ha : ad = ⟨(φ id).1, 0, none⟩ := by have := p2 (by omega); simpa using this
  subst ha
  have hle : (n + m) * sz ≤ (φ id).2 * sz := Nat.mul_le_mul_right _ (by omega)
  have hrun := run_append_room (P := P) w t ty e i ht hi (φ id).1 n cap cur.toArray k1 a m c nu (by rw [hsz]; exact g1) hcell (fun u hu => by
   obtain ⟨j, hj, rfl⟩ := List.getElem_of_mem hu
   have hj' : j < ds.length := by have := g2.1; omega
   exact (g2.2 j _ _ (List.getElem?_eq_getElem hj') (List.getElem?_eq_getElem hj)).2) hroom (by
    rw [hsz, g1]; simp only [List.size_toArray, k2]; omega)
  rw [hsz, g1] at hrun
  have hlc : (cur.take (n * sz)).length = n * sz := by rw [List.length_take]; omega
  have hll : (cur.take (n * sz) ++ nu ++ cur.drop (n * sz + m * sz)).length = (φ id).2 * sz := by
   simp only [List.length_append, List.length_take, List.length_drop, g1]; omega
  have hsame : (w.setRow (φ id).1 (cur.take (n * sz) ++ nu ++ cur.drop (n * sz + m * sz)).toArray).heap[(φ id).1]? = some (.cells (cur.take (n * sz) ++ nu ++ cur.drop (n * sz + m * sz)).toArray e (0, 0)) := setRow_heap w _ _ _ _ _ k1
  refine ⟨F, upd φ id (φ id), .slice (some ⟨(φ id).1, 0, none⟩) (n + m) cap, w.setRow (φ id).1 (cur.take (n * sz) ++ nu ++ cur.drop (n * sz + m * sz)).toArray, .inl ?_,
   H.put _ _ (hst _) (Fz.le_refl _) (fun a u hu => ?_) (fun a u e1 e2 => by rw [e1] at e2; cases e2) (bel_setRow w _ _ ⟨rfl, hlv⟩) (.inr ⟨rfl, hlv⟩) ?_, ?_⟩
  ·simp only [Sem.run_bind, hrun, Result.andThen_ok, Sem.run_pure]
  ·rw [look_same (setRow_other w _ _ _ (hF a u hu))]; exact H.agree _ _ hu
  ·rw [upd_self]
   refine ⟨_, hsame, hll, by rw [hll, List.length_append, g2.1.symm, g1]; omega, k4, fun j p u hp hu => ?_, k6⟩
   by_cases hj : j < n * sz
   ·rw [List.getElem?_append_left (by omega)] at hp
    rw [List.append_assoc, List.getElem?_append_left (by omega), List.getElem?_take, if_pos hj] at hu
    exact ⟨(k5 j p u hp hu).1.step (by have := hst (φ id); rwa [upd_self] at this), (k5 j p u hp hu).2⟩
   ·rw [List.getElem?_append_right (by omega), hlen] at hp
    have hj2 : j - n * sz < nu.length := by have := (List.getElem?_eq_some_iff.1 hp).1; have := g2.1; omega
    rw [List.append_assoc, List.getElem?_append_right (by omega), hlc, List.getElem?_append_left hj2] at hu
    exact ⟨(g2.2 _ p u hp hu).1.step (by have := hst (φ id); rwa [upd_self] at this), (g2.2 _ p u hp hu).2⟩
  ·refine ⟨ver + 1, e, cap, _, by rw [wr_one, upo_same]; rfl, Nat.le_refl _, rfl, hroom, q5, fun e => (by cases e), fun _ => ?_⟩
   rw [upd_same]; exact ⟨by omega, fun _ => by simp, fun _ => by omega⟩
 ·have hg : cap < n + m := by omega
  have hod : RepG F φ h cells (cur.take (n * sz)) := ⟨by rw [List.length_take]; omega, fun j p u hp hu => by
   rw [List.getElem?_take] at hu
   split at hu
   ·exact k5 j p u hp hu
   ·cases hu⟩
  have hoc : ∀ (j : Nat) (v : Value), (cur.take (n * sz))[j]? = some v → w.cell? (ad.add j) = some v := by
   intro j v hv
   have hj : j < n * sz := by have := (List.getElem?_eq_some_iff.1 hv).1; rw [List.length_take] at this; omega
   have hn0 : 0 < n := by
    rcases Nat.eq_zero_or_pos n with h0 | h0
    ·subst h0; omega
    ·exact h0
   rw [addr_add_spot (p2 (by omega)), cell_at k1]
   rw [List.getElem?_take, if_pos hj] at hv
   simpa using hv
  have hrun := run_append_grow (P := P) w t ty e i z ht hi hz ad n cap (cur.take (n * sz)) (by rw [hsz, List.length_take]; omega) hoc a m c nu (by rw [hsz]; exact g1) hcell hg (by omega)
   (growslice_fits hg (by rw [hby]; exact hro))
  generalize hrest : (Builtin.zeroCells z.cells (grownCap w (n + m) cap e - (n + m))).toList = rest at *
  have hrl : (cur.take (n * sz) ++ nu).length + rest.length = grownCap w (n + m) cap e * sz := by
   rw [← hrest]
   exact rest_len hzs (by simp only [List.length_append, List.length_take, g1]; omega)
  have hnew := H.drew.allocGrow (rid := id) (v := ver + 1) (sz := sz) (cur.take (n * sz) ++ nu ++ rest) e (grownCap w (n + m) cap e) (cells ++ ds) (hst _) (by rw [List.length_append]; exact hrl) (by have := g2.1; simp only [List.length_append, List.length_take]; omega) k4 (fun j p u hp hu => by
   have hj : j < (cur.take (n * sz) ++ nu).length := by have := (List.getElem?_eq_some_iff.1 hp).1; have := g2.1; have := hod.1; simp only [List.length_append] at *; omega
   rw [List.getElem?_append_left hj] at hu
   exact (hod.append g2).2 j p u hp hu)
  refine ⟨F, _, .slice (some ⟨w.heap.size, 0, none⟩) (n + m) (grownCap w (n + m) cap e), _, .inl ?_, hnew, ver + 1, e, _, _, by rw [wr_one, upo_same]; rfl, Nat.le_refl _, rfl, grownCap_ge _ _ _ _, grownCap_le_maxLen _ _ _ _ (by unfold maxLen; omega), fun e => (by cases e), fun _ => ?_⟩
  ·simp only [Sem.run_bind, hrun, Result.andThen_ok, Sem.run_pure]
   congr 3
   apply Array.ext'; simp [← hrest]
  ·have e : (upd φ id (w.drew.heap.size, grownCap w (n + m) cap e)) id = (w.heap.size, grownCap w (n + m) cap e) := upd_same _ _
   rw [e]; exact ⟨by simp, fun _ => by simp, fun _ => by simp⟩

theorem sim_appendG (H : RH P C F φ h w) {mu : Bool} {t t' ty : TypeId} {s x v : PV} {us ux : Value} {rid : Nat} {W : Wr} (hv : appendG P mu t t' s x h rid = some (v, W)) (hs : RepP F φ h s us) (hx : RepP F φ h x ux) :
  Sim P C h (((do pure (Next.value (← Builtin.append_ #[t, t'] ty #[us, ux]))) : Sem Next).run P w) v W := by
 unfold appendG at hv
 split at hv
 ·rename_i htt; subst htt
  split at hv
  ·cases hv
  ·rename_i e he
   split at hv
   ·cases hv
   ·rename_i sz by_ hsm
    obtain ⟨i, z, hi, hz, hsz, hzs, hpos, hby, hb0, hco⟩ := smallO_some hsm
    have ht := sliceO_some he
    split at hv
    ·cases hv
    ·rename_i ds m hsrc
     have hsrc' := srcG_some H hsrc hx
     have hzero : m = 0 → (ux = .slice none 0 0 ∨ ∃ a k, ux = .slice (some a) 0 k) := by
      intro hm
      rcases hsrc' with ⟨rfl, _, _⟩ | ⟨a, c, nu, rfl, _⟩
      ·exact .inl rfl
      ·subst hm; exact .inr ⟨a, c, rfl⟩
     split at hv
     ·-- nil
      cases hs
      split at hv
      ·rename_i hm
       cases hv
       have := append_none_run (P := P) (w := w) (ty := ty) ht hi none 0 0 (Nat.le_refl _) ux (hzero hm)
       exact Sim.quiet H (u := .slice none 0 0) (by simp [this]) .nilSl
      ·rename_i hm
       split at hv
       ·rename_i hc
        rcases hsrc' with ⟨_, _, h0⟩ | ⟨a, c, nu, rfl, g1, g2, g4⟩
        ·exact absurd h0 hm
        ·have hmax : m ≤ 140737488355328 := roomy_le hb0 hc.1
         have hrun := run_append_nil (P := P) w t ty e i z ht hi hz a m c nu (by rw [hsz]; exact g1) g4 (Nat.pos_of_ne_zero hm) (by omega)
          (Nat.le_trans (by rw [hby]; exact hc.1) (by decide))
         refine sim_fresh H (cap := grownCap w m 0 e) (rest := (Builtin.zeroCells z.cells (grownCap w m 0 e - m)).toList) hv (isRes_iff.1 hc.2) g2 g1 (rest_len hzs g1) (Nat.pos_of_ne_zero hm) (grownCap_ge _ _ _ _) (grownCap_le_maxLen _ _ _ _ (by unfold maxLen; omega)) hco ?_
         simp only [Sem.run_bind, hrun, Result.andThen_ok, Sem.run_pure]
         congr 3
         apply Array.ext'; simp
       ·cases hv
     ·-- a row whose capacity is its length
      rename_i cs n
      split at hv
      ·rename_i hlen
       split at hv
       ·rename_i hm
        cases hv
        have hs' := hs
        cases hs with
        | sl _ _ _ ad cap uu hul hF hrr h1 h2 h3 =>
         have := append_none_run (P := P) (w := w) (ty := ty) ht hi (some ad) n cap h1 ux (hzero hm)
         exact Sim.quiet H (u := .slice (some ad) n cap) (by simp [this]) hs'
       ·rename_i hm
        split at hv
        ·rename_i hc
         cases hs with
         | sl _ _ _ ad cap uu hul hF hrr h1 h2 h3 =>
          have hcap : cap = n := h2 rfl
          subst hcap
          rcases hsrc' with ⟨_, _, h0⟩ | ⟨a, c, nu, rfl, g1, g2, g4⟩
          ·exact absurd h0 hm
          ·have hmax := roomy_le hb0 hc.1
           have hg : cap < cap + m := by omega
           have hrun := run_append_grow (P := P) w t ty e i z ht hi hz ad cap cap uu (by rw [hsz]; omega) (fun j u hu => look_cell (H.agree _ _ (hF j u hu).1) (hF j u hu).2) a m c nu (by rw [hsz]; exact g1) g4 hg (by omega)
            (growslice_fits hg (by rw [hby]; exact hc.1))
           have hlu : uu.length + nu.length = (cap + m) * sz := by rw [Nat.add_mul, hul, hlen, g1]
           refine sim_fresh H (cap := grownCap w (cap + m) cap e) (us := uu ++ nu) (rest := (Builtin.zeroCells z.cells (grownCap w (cap + m) cap e - (cap + m))).toList) hv (isRes_iff.1 hc.2) ((RepG.of_t ⟨hul, hrr⟩ (fun i u hu => (hF i u hu).2)).append g2)
            (by rw [List.length_append]; exact hlu) (rest_len hzs (by rw [List.length_append]; exact hlu)) (by omega) (grownCap_ge _ _ _ _) (grownCap_le_maxLen _ _ _ _ (by unfold maxLen; omega)) hco ?_
           simp only [Sem.run_bind, hrun, Result.andThen_ok, Sem.run_pure]
           congr 3
           apply Array.ext'; simp
        ·cases hv
      ·cases hv
     ·-- a written row whose capacity is its length
      rename_i id ver sz' o n
      split at hv
      ·rename_i cells hg
       split at hv
       ·rename_i hlen
        obtain ⟨rfl, hle⟩ := hlen
        split at hv
        ·rename_i hm
         cases hv
         have hs' := hs
         obtain ⟨v, e', cap, ad, q1, q2, rfl, q4, q5, q6, q7⟩ := hs
         have := append_none_run (P := P) (w := w) (ty := ty) ht hi (some ad) n cap q4 ux (hzero hm)
         exact Sim.quiet H (u := .slice (some ad) n cap) (by simp [this]) hs'
        ·rename_i hm
         split at hv
         ·rename_i hc
          obtain ⟨cur, e2, sz2, g0, k1, k2, k3, k4, k5⟩ := row_at H hg
          obtain ⟨v', e', cap, ad, q1, q2, rfl, q4, q5, q6, q7⟩ := hs
          rw [g0] at q1; cases q1
          obtain ⟨p1, p2, p3⟩ := q7 rfl
          have hcap : cap = n := q6 rfl
          subst hcap
          rcases hsrc' with ⟨_, _, h0⟩ | ⟨a, c, nu, rfl, g1, g2, g4⟩
          ·exact absurd h0 hm
          ·have hmax := roomy_le hb0 hc.1
           have hg' : cap < cap + m := by omega
           have hmul : (o + cap) * sz' = o * sz' + cap * sz' := Nat.add_mul _ _ _
           have hod : RepG F φ h ((cells.drop (o * sz')).take (cap * sz')) ((cur.drop (o * sz')).take (cap * sz')) := RepG.drop_take k5 k3 (by omega)
           have hol : ((cur.drop (o * sz')).take (cap * sz')).length = cap * sz' := by simp only [List.length_take, List.length_drop]; omega
           have hrun := run_append_grow (P := P) w t ty e i z ht hi hz ad cap cap ((cur.drop (o * sz')).take (cap * sz')) (by rw [hsz]; exact hol) (fun j u hu => by
            rw [List.getElem?_take] at hu
            split at hu
            ·rw [List.getElem?_drop] at hu
             have h0 : 0 < cap := by
              rcases Nat.eq_zero_or_pos cap with h0 | h0
              ·subst h0; omega
              ·exact h0
             rw [addr_add_spot (p2 h0), cell_at k1]; exact hu
            ·cases hu) a m c nu (by rw [hsz]; exact g1) g4 hg' (by omega)
            (growslice_fits hg' (by rw [hby]; exact hc.1))
           have hlu : ((cur.drop (o * sz')).take (cap * sz')).length + nu.length = (cap + m) * sz' := by rw [Nat.add_mul, hol, g1]
           refine sim_fresh H (cap := grownCap w (cap + m) cap e) (us := (cur.drop (o * sz')).take (cap * sz') ++ nu) (rest := (Builtin.zeroCells z.cells (grownCap w (cap + m) cap e - (cap + m))).toList) hv (isRes_iff.1 hc.2) (hod.append g2)
            (by rw [List.length_append]; exact hlu) (rest_len hzs (by rw [List.length_append]; exact hlu)) (by omega) (grownCap_ge _ _ _ _) (grownCap_le_maxLen _ _ _ _ (by unfold maxLen; omega)) hco ?_
           simp only [Sem.run_bind, hrun, Result.andThen_ok, Sem.run_pure]
           congr 3
           apply Array.ext'; simp
         ·cases hv
       ·cases hv
      ·cases hv
     ·-- a written row
      rename_i id ver sz' n
      split at hv
      ·rename_i cells hg
       have hid := growIs_eq hg
       split at hv
       ·rename_i hlen
        obtain ⟨rfl, hle⟩ := hlen
        split at hv
        ·rename_i hm
         cases hv
         have hs' := hs
         obtain ⟨v, e', cap, ad, q1, q2, rfl, q4, q5, q6, q7⟩ := hs
         have := append_none_run (P := P) (w := w) (ty := ty) ht hi (some ad) n cap q4 ux (hzero hm)
         exact Sim.quiet H (u := .slice (some ad) n cap) (by simp [this]) hs'
        ·rename_i hm
         split at hv
         ·rename_i hc
          cases hv
          rcases hsrc' with ⟨_, _, h0⟩ | ⟨a, c, nu, rfl, g1, g2, g4⟩
          ·exact absurd h0 hm
          ·exact sim_append_grow H ht hi hz hsz hzs hby hb0 hid hs hle g1 g2 g4 (Nat.pos_of_ne_zero hm) hc
         ·cases hv
       ·cases hv
      ·cases hv
     ·-- a row of our own
      rename_i cs n id
      split at hv
      ·rename_i ds' hds
       split at hv
       ·rename_i hlt
        obtain ⟨hlen, htok⟩ := hlt
        have hid := tokIs_eq htok
        rcases Nat.eq_zero_or_pos n with hn0 | hn0
        ·subst hn0
         obtain ⟨hcs, hus⟩ := hs.1 rfl
         subst hcs; subst hus
         split at hv
         ·rename_i hm
          cases hv
          have := append_none_run (P := P) (w := w) (ty := ty) ht hi none 0 0 (Nat.le_refl _) ux (hzero hm)
          exact Sim.quiet H (u := .slice none 0 0) (by simp [this]) hs
         ·rename_i hm
          split at hv
          ·rename_i hc
           simp only [Nat.zero_add, List.nil_append, Option.some.injEq, Prod.mk.injEq] at hv hc
           obtain ⟨rfl, rfl⟩ := hv
           rcases hsrc' with ⟨_, _, h0⟩ | ⟨a, c, nu, rfl, g1, g2', g4⟩
           ·exact absurd h0 hm
           ·have hmax : m ≤ 140737488355328 := roomy_le hb0 hc
            obtain ⟨g2, g3⟩ := g2'.toL hds
            have hrun := run_append_nil (P := P) w t ty e i z ht hi hz a m c nu (by rw [hsz]; exact g1) g4 (Nat.pos_of_ne_zero hm) (by omega)
             (Nat.le_trans (by rw [hby]; exact hc) (by decide))
            refine sim_newTok H (cap := grownCap w m 0 e) (rest := (Builtin.zeroCells z.cells (grownCap w m 0 e - m)).toList) (HStep.one _ (by rw [hid]; exact ⟨m, rfl, by omega, fun e => by omega⟩)) g2 g3 (by rw [hco]; exact g1) (by rw [hco]; exact rest_len hzs g1) (Nat.pos_of_ne_zero hm) (grownCap_ge _ _ _ _) (grownCap_le_maxLen _ _ _ _ (by unfold maxLen; omega)) ?_
            simp only [Sem.run_bind, hrun, Result.andThen_ok, Sem.run_pure]
            congr 3
            apply Array.ext'; simp
          ·cases hv
        have hs0 := hs
        obtain ⟨_, hsl, m0, e0, h01, h02, hval⟩ := hs
        have hsl := hsl hn0
        rw [hid] at h01; cases h01
        have hu := hval rfl hn0
        subst hu
        split at hv
        ·rename_i hm
         cases hv
         cases hsl with
         | sl _ _ _ _ _ uu hul hF hrr h1 h2 h3 =>
          have := append_none_run (P := P) (w := w) (ty := ty) ht hi (some ⟨(φ id).1, 0, none⟩) n (φ id).2 h1 ux (hzero hm)
          exact Sim.quiet H (u := .slice (some ⟨(φ id).1, 0, none⟩) n (φ id).2) (by simp [this]) hs0
        ·rename_i hm
         split at hv
         ·rename_i hc
          cases hv
          cases hsl with
          | sl _ _ _ _ _ uu hul hF hrr h1 h2 h3 =>
           rcases hsrc' with ⟨_, _, h0⟩ | ⟨a, c, nu, rfl, g1, g2', g4⟩
           ·exact absurd h0 hm
           ·have hmax := roomy_le hb0 hc
            obtain ⟨g2, g3⟩ := g2'.toL hds
            have ho1 : Ones uu := fun i u hu => (hF i u hu).2
            by_cases hroom : n + m ≤ (φ id).2
            ·refine sim_append_room H hid ⟨hul, hrr⟩ ho1 (by rw [hco]; omega) (fun i v hv => by have := (hF i v hv).1; rwa [add_plain, Nat.zero_add] at this) g2 g3 (by rw [hco]; exact g1) hn0 (Nat.pos_of_ne_zero hm) hroom h3 ?_
             intro cur hcur
             have hle : (n + m) * sz ≤ (φ id).2 * sz := Nat.mul_le_mul_right _ hroom
             have hob := H.objs id
             rw [hid] at hob
             obtain ⟨cur', k1, k2, _, _⟩ := hob hn0
             have hcc : cur = cur' := by rw [hcur] at k1; simpa using k1
             subst hcc
             have hrun := run_append_room (P := P) w t ty e i ht hi (φ id).1 n (φ id).2 cur.toArray hcur a m c nu (by rw [hsz]; exact g1) g4 (fun u hu => by
              obtain ⟨j, hj, rfl⟩ := List.getElem_of_mem hu
              exact g3 j _ (List.getElem?_eq_getElem hj)) hroom (by
               rw [hsz, g1, ← Nat.add_mul]; simp only [List.size_toArray, k2, hco]; exact hle)
             simp only [Sem.run_bind, hrun, Result.andThen_ok, Sem.run_pure, hsz, hco]
            ·have hg : (φ id).2 < n + m := by omega
             have hrun := run_append_grow (P := P) w t ty e i z ht hi hz ⟨(φ id).1, 0, none⟩ n (φ id).2 uu (by rw [hsz]; omega) (fun j u hu => look_cell (H.agree _ _ (hF j u hu).1) (hF j u hu).2) a m c nu (by rw [hsz]; exact g1) g4 hg (by omega)
              (growslice_fits hg (by rw [hby]; exact hc))
             have hlu : uu.length + nu.length = (n + m) * sz := by rw [Nat.add_mul, hul, hlen, g1]
             refine sim_newTok H (cap := grownCap w (n + m) (φ id).2 e) (rest := (Builtin.zeroCells z.cells (grownCap w (n + m) (φ id).2 e - (n + m))).toList) (HStep.one _ (by rw [hid]; exact ⟨n + m, rfl, by omega, fun e => by omega⟩)) (RepL.append ⟨hul, hrr⟩ g2) (Ones.append ho1 g3)
              (by rw [hco, List.length_append]; exact hlu) ?_ (by omega) (grownCap_ge _ _ _ _) (grownCap_le_maxLen _ _ _ _ (by unfold maxLen; omega)) ?_
             ·rw [hco]; exact rest_len hzs (by rw [List.length_append]; exact hlu)
             ·simp only [Sem.run_bind, hrun, Result.andThen_ok, Sem.run_pure]
              congr 3
              apply Array.ext'; simp
         ·cases hv
       ·cases hv
      ·cases hv
     ·cases hv
 ·cases hv

theorem RepT.int_inv {k : IntKind} {n : Int} {u : Value} (hr : RepT F (.int k n) u) : u = .int k n := by cases hr; rfl
theorem RepT.bool_inv {b : Bool} {u : Value} (hr : RepT F (.bool b) u) : u = .bool b := by cases hr; rfl

theorem strip_rep {b : Bool} {p : PV} {u : Value} (hb : b = true) (hr : RepP F φ h p u) : RepP F φ h (strip b p) u := by
 unfold strip
 split
 ·rename_i b' q
  cases e : b' == b with
  | false => exact hr
  | true =>
   have : b' = b := by simpa using e
   exact hr.1 (by rw [this]; exact hb)
 ·exact hr
theorem pickP_rep {c : Bool} {p q : PV} {u v : Value} (hp : RepP F φ h p u) (hq : RepP F φ h q v) : RepP F φ h (pickP c p q) (if c then u else v) := by
 cases c with
 | true =>
  have h1 := strip_rep (b := true) rfl hp
  unfold pickP
  split
  ·rename_i x y hx hy
   rw [hx] at h1
   simpa using h1
  ·simpa using h1
 | false =>
  have h1 := strip_rep (b := true) rfl hq
  unfold pickP
  split
  ·rename_i x y hx hy
   simp only [Bool.not_false] at hy
   rw [hy] at h1
   simpa using h1
  ·simpa using h1

theorem sim_gnil {xt e : TypeId} {x y : Operand} {ux uy : Value} {a : Addr} {n cap : Nat} (he : P.underlying xt = some (.slice e)) (hx : ux = .slice (some a) n cap) (hy : uy = .slice none 0 0) :
  (((do eqGuard .eql xt x y ux uy; pure (Next.value (← binOp .eql xt ux uy))) : Sem Next).run P w = .ok (.value (.bool false)) w) ∧ (((do eqGuard .neq xt x y ux uy; pure (Next.value (← binOp .neq xt ux uy))) : Sem Next).run P w = .ok (.value (.bool true)) w) := by
 subst hx; subst hy
 have h1 : ∀ op, (eqGuard op xt x y (.slice (some a) n cap) (.slice none 0 0)).run P w = .ok () w := fun op => run_eqGuard (by simp) (.inl (by simp))
 have h2 : (Op.equal xt (.slice (some a) n cap) (.slice none 0 0)).run P w = .ok false w := by
  unfold Op.equal Op.maxDepth
  rw [show (10000 : Nat) = 9999 + 1 from rfl]
  unfold Op.equalIn
  simp only [Sem.run_bind, run_underlying' he, Result.andThen_ok, Sem.run_pure]
 constructor
 ·simp [h1, binOp, h2]
 ·simp [h1, binOp, h2]
theorem sim_nilnil {xt e : TypeId} {x y : Operand} {ux uy : Value} (he : P.underlying xt = some (.slice e)) (hx : ux = .slice none 0 0) (hy : uy = .slice none 0 0) :
  (((do eqGuard .eql xt x y ux uy; pure (Next.value (← binOp .eql xt ux uy))) : Sem Next).run P w = .ok (.value (.bool true)) w) ∧ (((do eqGuard .neq xt x y ux uy; pure (Next.value (← binOp .neq xt ux uy))) : Sem Next).run P w = .ok (.value (.bool false)) w) := by
 subst hx; subst hy
 have h1 : ∀ op, (eqGuard op xt x y (.slice none 0 0) (.slice none 0 0)).run P w = .ok () w := fun op => run_eqGuard (by simp) (.inl (by simp))
 have h2 : (Op.equal xt (.slice none 0 0) (.slice none 0 0)).run P w = .ok true w := by
  unfold Op.equal Op.maxDepth
  rw [show (10000 : Nat) = 9999 + 1 from rfl]
  unfold Op.equalIn
  simp only [Sem.run_bind, run_underlying' he, Result.andThen_ok, Sem.run_pure]
  rfl
 constructor
 ·simp [h1, binOp, h2]
 ·simp [h1, binOp, h2]
theorem mkV_inj {b b' : Bool} {us us' : List Value} (h : mkV b us = mkV b' us') : us = us' := by
 cases b <;> cases b' <;> simp [mkV] at h <;> exact h
theorem nthP_rep : ∀ {p : PV} {i : Nat} {x : PV} {u : Value}, nthP p i = some x → RepP F φ h p u → ∀ {b : Bool} {us : List Value}, u = mkV b us → ∃ z, us[i]? = some z ∧ RepP F φ h x z
 | .cons b p q, 0, x, u, hn, hr, b', us', hu' => by
  simp [nthP] at hn; subst hn
  obtain ⟨v, us, hu, r1, _⟩ := hr
  rw [hu'] at hu
  rw [mkV_inj hu]
  exact ⟨v, rfl, r1⟩
 | .cons b p q, i + 1, x, u, hn, hr, b', us', hu' => by
  obtain ⟨v, us, hu, r1, r2, _⟩ := hr
  rw [hu'] at hu
  rw [mkV_inj hu]
  obtain ⟨z, hz, rz⟩ := nthP_rep (p := q) (by simpa [nthP] using hn) r2 rfl
  exact ⟨z, by simpa using hz, rz⟩
 | .t _, _, _, _, hn, _, _, _, _ => by simp [nthP] at hn
 | .ptr _ _, _, _, _, hn, _, _, _, _ => by simp [nthP] at hn
 | .own _ _ _, _, _, _, hn, _, _, _, _ => by simp [nthP] at hn
 | .fnc _ _, _, _, _, hn, _, _, _, _ => by simp [nthP] at hn
 | .yld _, _, _, _, hn, _, _, _, _ => by simp [nthP] at hn
 | .mth _ _, _, _, _, hn, _, _, _, _ => by simp [nthP] at hn
 | .cond _ _, _, _, _, hn, _, _, _, _ => by simp [nthP] at hn
 | .gsl _ _ _ _ _ _, _, _, _, hn, _, _, _, _ => by simp [nthP] at hn
 | .gptr _ _ _, _, _, _, hn, _, _, _, _ => by simp [nthP] at hn
 | .mapr _, _, _, _, hn, _, _, _, _ => by simp [nthP] at hn
 | .nil _, _, _, _, hn, _, _, _, _ => by simp [nthP] at hn
 | .junk, _, _, _, hn, _, _, _, _ => by simp [nthP] at hn

theorem pop_sim (H : RH P C F φ h w) {ρp : Operand → PV} {ρv : Operand → Value} (hρ : ∀ x, RepP F φ h (ρp x) (ρv x)) {o : Oper} {v : PV} {rid : Nat} {W : Wr} (hp : pop P o.op ρp h rid = some (v, W)) :
  Sim P C h ((execOp ρv o).run P w) v W := by
 obtain ⟨dst, op, type, pos, after, guard⟩ := o
 simp only at hp
 unfold pop at hp
 split at hp
 ·simp at hp; obtain ⟨rfl, rfl⟩ := hp; exact Sim.quiet H rfl (hρ _)
 ·simp at hp; obtain ⟨rfl, rfl⟩ := hp; exact Sim.quiet H rfl (hρ _)
 ·rename_i c a b
  have hc := hρ c
  split at hp
  ·rename_i cb hcb
   rw [hcb] at hc
   have hc' : ρv c = .bool cb := RepT.bool_inv hc
   simp at hp; obtain ⟨rfl, rfl⟩ := hp
   refine Sim.quiet H (u := if cb then ρv a else ρv b) ?_ (pickP_rep (hρ a) (hρ b))
   simp [execOp, hc', asBool]
  ·cases hp
 ·rename_i e
  cases hz : zeroL P e with
  | none => rw [hz] at hp; simp at hp
  | some z =>
   rw [hz] at hp; simp only [Option.bind_some] at hp
   split at hp
   ·rename_i hres
    simp at hp; obtain ⟨rfl, rfl⟩ := hp
    exact sim_alloc H hz (isRes_iff.1 hres)
   ·cases hp
 ·rename_i e x
  cases hz : pcells (ρp x) with
  | none => rw [hz] at hp; simp at hp
  | some z =>
   rw [hz] at hp; simp only [Option.bind_some] at hp
   split at hp
   ·rename_i hres
    simp at hp; obtain ⟨rfl, rfl⟩ := hp
    exact sim_box H hz (hρ x) (isRes_iff.1 hres)
   ·cases hp
 ·rename_i t parts
  cases hz : partsO ρp parts with
  | none =>
   rw [hz] at hp; simp only [Option.map_eq_some_iff] at hp
   obtain ⟨x, hx, he⟩ := hp
   simp at he; obtain ⟨rfl, rfl⟩ := he
   exact sim_buildP H hρ hx
  | some ps =>
   rw [hz] at hp; simp only [Option.map_eq_some_iff] at hp
   obtain ⟨x, hx, he⟩ := hp
   simp at he; obtain ⟨rfl, rfl⟩ := he
   exact sim_build H hρ hz hx
 ·rename_i t n parts
  cases hz : partsO ρp parts with
  | none => rw [hz] at hp; simp at hp
  | some ps =>
   rw [hz] at hp; simp only [Option.bind_some, Option.map_eq_some_iff] at hp
   obtain ⟨x, hx, he⟩ := hp
   simp at he; obtain ⟨rfl, rfl⟩ := he
   exact sim_buildSlice H hρ hz hx
 ·rename_i t l c
  have hl := hρ l
  have hc := hρ c
  split at hp
  ·rename_i kl l' kc c' hpl hpc
   rw [hpl] at hl; rw [hpc] at hc
   have ul : ρv l = .int kl l' := RepT.int_inv hl
   have uc : ρv c = .int kc c' := RepT.int_inv hc
   split at hp
   ·rename_i e he
    split at hp
    ·rename_i sz by_ z hsm hz
     split at hp
     ·rename_i hcond
      obtain ⟨h0, hlc, hro, hres, hzl⟩ := hcond
      simp at hp; obtain ⟨rfl, rfl⟩ := hp
      have := sim_makeSlice (kl := kl) (kc := kc) H he hsm hz h0 hlc hro (isRes_iff.1 hres)
      rw [← ul, ← uc] at this
      exact this
     ·cases hp
    ·cases hp
   ·cases hp
  ·cases hp
 ·rename_i t
  split at hp
  ·split at hp
   ·rename_i hres
    simp at hp; obtain ⟨rfl, rfl⟩ := hp
    exact sim_makeMap H (isRes_iff.1 hres)
   ·cases hp
  ·cases hp
 ·exact sim_update H hp (hρ _) (hρ _) (hρ _)
 ·exact sim_update H hp (hρ _) (hρ _) (hρ _)
 ·rename_i t m k ok
  have hm := hρ m
  split at hp
  ·rename_i id k' kt et hpm hpk ht
   rw [hpm] at hm
   split at hp
   ·rename_i t' f z hid hz
    split at hp
    ·rename_i hc
     obtain ⟨rfl, hk⟩ := hc
     simp only [Option.some.injEq, Prod.mk.injEq] at hp
     obtain ⟨rfl, rfl⟩ := hp
     exact sim_lookup H ht hid hz hk hm (PV.toT_rep hpk (hρ k))
    ·cases hp
   ·cases hp
  ·rename_i k' kt et hpm hpk ht
   rw [hpm] at hm
   have um : ρv m = .map none := by generalize ρv m = u at hm; cases hm; rfl
   split at hp
   ·rename_i z hz
    split at hp
    ·rename_i hk
     simp only [Option.some.injEq, Prod.mk.injEq] at hp
     obtain ⟨rfl, rfl⟩ := hp
     have := sim_lookup_nil (ok := ok) H ht hz hk (PV.toT_rep hpk (hρ k))
     rw [← um] at this
     exact this
    ·cases hp
   ·cases hp
  ·cases hp
 ·rename_i t a
  have ha := hρ a
  split at hp
  ·rename_i id ver off hpa
   rw [hpa] at ha
   simp only [Option.bind_eq_some_iff, Option.map_eq_some_iff] at hp
   obtain ⟨cells, hcells, x, hx, he⟩ := hp
   simp at he; obtain ⟨rfl, rfl⟩ := he
   exact sim_load_gptr H hcells ha hx
  ·rename_i id off hpa
   rw [hpa] at ha
   obtain ⟨hb, hu⟩ := ha
   split at hp
   ·rename_i cells hcells
    simp only [Option.map_eq_some_iff] at hp
    obtain ⟨x, hx, he⟩ := hp
    simp at he; obtain ⟨rfl, rfl⟩ := he
    have := sim_load_ptr (t := t) H hcells hx
    rw [← hu] at this
    exact this
   ·rename_i cells hcells
    simp only [Option.map_eq_some_iff] at hp
    obtain ⟨x, hx, he⟩ := hp
    simp at he; obtain ⟨rfl, rfl⟩ := he
    have := sim_load_ro (t := t) H hcells hx
    rw [← hu] at this
    exact this
   ·cases hp
  ·rename_i cs hpa
   rw [hpa] at ha
   simp only [Option.map_eq_some_iff] at hp
   obtain ⟨x, hx, he⟩ := hp
   simp at he; obtain ⟨rfl, rfl⟩ := he
   exact sim_load_cptr H ha hx
  ·cases hp
 ·rename_i t a x
  have ha := hρ a
  split at hp
  ·rename_i id ver off hpa
   rw [hpa] at ha
   split at hp
   ·rename_i v' cells e sz hcells
    split at hp
    ·rename_i hv; subst hv
     simp only [Option.map_eq_some_iff] at hp
     obtain ⟨c', hx, he⟩ := hp
     simp at he; obtain ⟨rfl, rfl⟩ := he
     exact sim_store_gptr H hcells ha hx (hρ x)
    ·cases hp
   ·cases hp
  ·rename_i id off hpa
   rw [hpa] at ha
   obtain ⟨hb, hu⟩ := ha
   split at hp
   ·rename_i cells hcells
    simp only [Option.map_eq_some_iff] at hp
    obtain ⟨c', hx, he⟩ := hp
    simp at he; obtain ⟨rfl, rfl⟩ := he
    have := sim_store (t := t) H hcells hx (hρ x)
    rw [← hu] at this
    exact this
   ·cases hp
  ·cases hp
 ·rename_i x
  have hx := hρ x
  split at hp
  ·rename_i id off hpx
   rw [hpx] at hx
   simp at hp; obtain ⟨rfl, rfl⟩ := hp
   obtain ⟨hb, hu⟩ := hx
   exact Sim.quiet H (u := .pointer (some ⟨(φ id).1, off, none⟩)) (by simp [execOp, hu]) ⟨hb, rfl⟩
  ·rename_i cs hpx
   rw [hpx] at hx
   simp at hp; obtain ⟨rfl, rfl⟩ := hp
   have hx' : RepT F (.cptr cs) (ρv x) := hx
   generalize hu : ρv x = u at hx'
   have hx2 := hx'
   cases hx2 with
   | cptr _ a us _ _ _ => exact Sim.quiet H (u := .pointer (some a)) (by simp [execOp, hu]) hx'
  ·rename_i f pre caps hpx
   rw [hpx] at hx
   simp at hp; obtain ⟨rfl, rfl⟩ := hp
   have hx' : RepT F (.fn f pre caps) (ρv x) := hx
   generalize hu : ρv x = u at hx'
   have hx2 := hx'
   cases hx2 with
   | fn _ _ _ vs us _ _ _ _ => exact Sim.quiet H (u := .func (.func f) vs.toArray us.toArray) (by simp [execOp, hu]) hx'
  ·rename_i id ver off hpx
   rw [hpx] at hx
   simp at hp; obtain ⟨rfl, rfl⟩ := hp
   have hx2 := hx
   obtain ⟨_, _, _, a, _, _, hu, _⟩ := hx2
   rw [hu] at hx
   exact Sim.quiet H (u := .pointer (some a)) (by simp [execOp, hu]) hx
  ·rename_i f ids hpx
   rw [hpx] at hx
   simp at hp; obtain ⟨rfl, rfl⟩ := hp
   obtain ⟨hb, hu⟩ := hx
   exact Sim.quiet H (u := .func (.func f) #[] (ids.map fun id => Value.pointer (some ⟨(φ id).1, 0, none⟩)).toArray) (by simp [execOp, hu]) ⟨hb, rfl⟩
  ·rename_i t name hpx
   rw [hpx] at hx
   split at hp
   ·rename_i f2 hm
    simp at hp; obtain ⟨rfl, rfl⟩ := hp
    obtain ⟨xs, w0, hu, hx0⟩ := hx
    have hahead : ∀ fuel, (nilAhead (fuel + 1) t w0 name).run P w = .ok (some false) w := by
     intro fuel
     unfold methodO at hm
     split at hm
     ·cases hm
     ·rename_i i hi
      split at hm
      ·cases hm
      ·rename_i m hfind
       have hfind' : Array.find? (fun x => x.name == name) i.methods = some m := hfind
       split at hm
       ·cases hm
       ·rename_i f3 d hnp hpath hfunc hund
        simp only [nilAhead, Sem.run_bind, typeInfo, run_program, Result.andThen_ok, hi, Sem.run_pure, hfind', hpath, followBlind, hfunc, run_underlying' hund]
        cases d <;> first | rfl | exact absurd rfl (hnp _)
       ·cases hm
    refine Sim.quiet H (u := .func (.method name) xs #[]) ?_ ⟨xs, w0, rfl, hx0⟩
    have hdep : 0 < Made.depth := by decide
    obtain ⟨k, hk⟩ : ∃ k, P.types.size + Made.depth = k + 1 := ⟨P.types.size + Made.depth - 1, by omega⟩
    simp only [execOp, hu, hx0, Sem.run_bind, run_program, Result.andThen_ok, hk, hahead]
    first | rfl | simp
   ·cases hp
  ·cases hp
 ·rename_i op xt x y yt
  split at hp
  ·rename_i id ver sz o n full hpx hpy
   have hx := hρ x
   have hy := hρ y
   rw [hpx] at hx
   rw [hpy] at hy
   obtain ⟨a, cap, ux, _⟩ := RepP.slice_of hx
   have uy : ρv y = .slice none 0 0 := by generalize ρv y = u at hy; cases hy; rfl
   split at hp
   ·rename_i e he
    simp at hp; obtain ⟨rfl, rfl⟩ := hp
    exact Sim.quiet H (u := .bool false) (by simpa [execOp] using (sim_gnil (w := w) (x := x) (y := y) (sliceO_some he) ux uy).1) (RepT.bool _)
   ·rename_i e he
    simp at hp; obtain ⟨rfl, rfl⟩ := hp
    exact Sim.quiet H (u := .bool true) (by simpa [execOp] using (sim_gnil (w := w) (x := x) (y := y) (sliceO_some he) ux uy).2) (RepT.bool _)
   ·cases hp
  ·rename_i cs n id hpx hpy
   have hx := hρ x
   have hy := hρ y
   rw [hpx] at hx
   rw [hpy] at hy
   have uy : ρv y = .slice none 0 0 := by generalize ρv y = u at hy; cases hy; rfl
   have key : ∀ e, P.underlying xt = some (.slice e) → (((do eqGuard .eql xt x y (ρv x) (ρv y); pure (Next.value (← binOp .eql xt (ρv x) (ρv y)))) : Sem Next).run P w = .ok (.value (.bool (decide (n = 0)))) w) ∧
     (((do eqGuard .neq xt x y (ρv x) (ρv y); pure (Next.value (← binOp .neq xt (ρv x) (ρv y)))) : Sem Next).run P w = .ok (.value (.bool (decide (0 < n)))) w) := by
    intro e he
    rcases Nat.eq_zero_or_pos n with h0 | h0
    ·subst h0
     obtain ⟨_, ux⟩ := hx.1 rfl
     simpa using sim_nilnil (w := w) (x := x) (y := y) he ux uy
    ·obtain ⟨a, cap, ux⟩ : ∃ a cap, ρv x = .slice (some a) n cap := by
      have := hx.2.1 h0
      generalize ρv x = u at this
      cases this with
      | sl _ _ _ a cap => exact ⟨a, cap, rfl⟩
     have e1 : decide (n = 0) = false := by simp; omega
     have e2 : decide (0 < n) = true := by simpa using h0
     rw [e1, e2]
     exact sim_gnil he ux uy
   split at hp
   ·rename_i e he
    simp at hp; obtain ⟨rfl, rfl⟩ := hp
    exact Sim.quiet H (u := .bool (decide (n = 0))) (by simpa [execOp] using (key _ (sliceO_some he)).1) (RepT.bool _)
   ·rename_i e he
    simp at hp; obtain ⟨rfl, rfl⟩ := hp
    exact Sim.quiet H (u := .bool (decide (0 < n))) (by simpa [execOp] using (key _ (sliceO_some he)).2) (RepT.bool _)
   ·cases hp
  ·split at hp
   ·rename_i a b ha hb
    simp only [Option.map_eq_some_iff] at hp
    obtain ⟨c, hc, he⟩ := hp
    simp at he; obtain ⟨rfl, rfl⟩ := he
    exact sim_binOp H hc (PV.toT_rep ha (hρ x)) (PV.toT_rep hb (hρ y))
   ·cases hp
 ·rename_i op xt x
  split at hp
  ·rename_i a ha
   simp only [Option.map_eq_some_iff] at hp
   obtain ⟨c, hc, he⟩ := hp
   simp at he; obtain ⟨rfl, rfl⟩ := he
   exact sim_unOp H hc (PV.toT_rep ha (hρ x))
  ·cases hp
 ·rename_i src dst x
  have hx := hρ x
  split at hp
  ·rename_i k0 n hpx
   rw [hpx] at hx
   have hu : ρv x = .int k0 n := RepT.int_inv hx
   split at hp
   ·rename_i k k' hk hs
    simp at hp; obtain ⟨rfl, rfl⟩ := hp
    have := sim_convert (n := n) (k0 := k0) H hk hs
    rw [← hu] at this
    exact this
   ·cases hp
  ·cases hp
 ·rename_i t x
  split at hp
  ·rename_i a ha
   split at hp
   ·rename_i hd
    obtain ⟨d, hd, hn⟩ := plainO_true hd
    simp at hp; obtain ⟨rfl, rfl⟩ := hp
    exact sim_makeInterface H hd hn (PV.toT_rep ha (hρ x))
   ·cases hp
  ·cases hp
 ·rename_i f first caps
  split at hp
  ·rename_i hemp
   have : caps = #[] := by simpa using hemp
   subst this
   simp only [Option.map_eq_some_iff] at hp
   obtain ⟨xs, hxs, he⟩ := hp
   simp at he; obtain ⟨rfl, rfl⟩ := he
   have hrl : RepL F xs (first.toList.map ρv) := allO_toT (h := h) (φ := φ) (l := first.toList.map ρp) (by rw [List.map_map]; exact hxs) (by simp) (fun i p u hp hu => by
    simp only [List.getElem?_map, Option.map_eq_some_iff] at hp hu
    obtain ⟨a, ha, rfl⟩ := hp
    obtain ⟨b, hb, rfl⟩ := hu
    rw [ha] at hb; cases hb
    exact hρ a)
   have e : first.map ρv = (first.toList.map ρv).toArray := by apply Array.ext'; simp
   exact Sim.quiet H (u := .func (.func f) (first.toList.map ρv).toArray #[]) (by simp [execOp, Instr.makeFunc, e]) (RepT.fn f xs [] (first.toList.map ρv) [] hrl.1 hrl.2 rfl (by simp))
  rename_i hemp
  split at hp
  ·cases hp
  rename_i hfirst
  have : first = #[] := by simpa using hfirst
  subst this
  ·simp only [Option.map_eq_some_iff] at hp
   obtain ⟨ids, hids, he⟩ := hp
   simp at he; obtain ⟨rfl, rfl⟩ := he
   obtain ⟨hl, hs⟩ := allO_some hids
   have key : ∀ (i : Nat) (c : Operand) (id : Nat), caps.toList[i]? = some c → ids[i]? = some id → isBox h id ∧ ρv c = .pointer (some ⟨(φ id).1, 0, none⟩) := by
    intro i c id hc hid
    have := hs i c id hc hid
    have hr := hρ c
    unfold capId at this
    split at this
    ·rename_i id' hpc
     simp at this; subst this
     rw [hpc] at hr
     exact hr
    ·cases this
   refine Sim.quiet H (u := .func (.func f) #[] (ids.map fun id => Value.pointer (some ⟨(φ id).1, 0, none⟩)).toArray) ?_ ⟨fun id hid => ?_, rfl⟩
   ·have e : caps.map ρv = (ids.map fun id => Value.pointer (some ⟨(φ id).1, 0, none⟩)).toArray := by
     apply Array.ext'
     rw [Array.toList_map]
     apply List.ext_getElem?
     intro i
     simp only [List.getElem?_map]
     cases hc : caps.toList[i]? with
     | none =>
      have : ids[i]? = none := List.getElem?_eq_none (by rw [hl]; exact List.getElem?_eq_none_iff.1 hc)
      simp [this]
     | some c =>
      have hi : i < ids.length := by rw [hl]; exact (List.getElem?_eq_some_iff.1 hc).1
      rw [List.getElem?_eq_getElem hi]
      simp [(key i c ids[i] hc (List.getElem?_eq_getElem hi)).2]
    simp [execOp, Instr.makeFunc, e]
   ·obtain ⟨i, hi, rfl⟩ := List.getElem_of_mem hid
    have hi' : i < caps.toList.length := by omega
    exact (key i _ _ (List.getElem?_eq_getElem hi') (List.getElem?_eq_getElem hi)).1
 ·rename_i name first caps
  split at hp
  ·rename_i hemp
   have : caps = #[] := by simpa using hemp
   subst this
   split at hp
   ·rename_i a l hfi
    split at hp
    ·rename_i t x hpa
     simp at hp; obtain ⟨rfl, rfl⟩ := hp
     have hr := hρ a
     rw [hpa] at hr
     have hr' : RepT F (.ifc t x) (ρv a) := hr
     generalize hu : ρv a = u at hr'
     cases hr' with
     | ifc _ _ u hx =>
      refine Sim.quiet H (u := .func (.method name) (first.map ρv) #[]) (by simp [execOp, Instr.makeFunc]) ⟨_, u, rfl, ?_⟩
      have h0 : first[0]? = some a := by rw [← Array.getElem?_toList, hfi]; rfl
      rw [Array.getElem?_map, h0]; simp [hu]
    ·cases hp
   ·cases hp
  ·cases hp
 ·rename_i s x f
  have hx := hρ x
  split at hp
  ·rename_i o ft hf
   split at hp
   ·cases hp
   ·rename_i hn
    split at hp
    ·rename_i id off hpx
     rw [hpx] at hx
     obtain ⟨hb, hu⟩ := hx
     simp at hp; obtain ⟨rfl, rfl⟩ := hp
     have := sim_fieldAddr_ptr (off := off) H hf hn hb
     rw [← hu] at this
     exact this
    ·rename_i cs hpx
     rw [hpx] at hx
     simp at hp; obtain ⟨rfl, rfl⟩ := hp
     exact sim_fieldAddr_cptr H hf hn hx
    ·rename_i id ver off hpx
     rw [hpx] at hx
     simp at hp; obtain ⟨rfl, rfl⟩ := hp
     exact sim_fieldAddr_gptr H hf hn hx
    ·cases hp
  ·cases hp
 ·rename_i s x f
  have hx := hρ x
  split at hp
  ·rename_i o ft cs hf hpx
   rw [hpx] at hx
   simp only [Option.map_eq_some_iff] at hp
   obtain ⟨y, hy, he⟩ := hp
   simp at he; obtain ⟨rfl, rfl⟩ := he
   exact sim_field H hf hy hx
  ·rename_i o ft b p q hf hpx
   rw [hpx] at hx
   split at hp
   ·cases hp
   ·rename_i hb
    simp only [Option.bind_eq_some_iff, Option.map_eq_some_iff] at hp
    obtain ⟨cs, hcs, y, hy, he⟩ := hp
    simp at he; obtain ⟨rfl, rfl⟩ := he
    have hb' : b = false := by simpa using hb
    subst hb'
    have hx2 := hx
    obtain ⟨v, us, hu, _⟩ := hx2
    exact sim_field_cons H hf hcs hy hx ⟨_, hu⟩
  ·cases hp
 ·rename_i t x i
  have hi := hρ i
  split at hp
  ·rename_i k n hpi
   rw [hpi] at hi
   have hu : ρv i = .int k n := RepT.int_inv hi
   simp only [Option.map_eq_some_iff] at hp
   obtain ⟨y, hy, he⟩ := hp
   simp at he; obtain ⟨rfl, rfl⟩ := he
   have := sim_indexAddr (k := k) H hy (hρ x)
   rw [← hu] at this
   exact this
  ·cases hp
 ·rename_i t x i
  have hi := hρ i
  split at hp
  ·rename_i k n cs hpi hpx
   rw [hpi] at hi
   have hu : ρv i = .int k n := RepT.int_inv hi
   have hx := PV.toT_rep hpx (hρ x)
   split at hp
   ·rename_i m e ha
    split at hp
    ·rename_i sz hsz
     split at hp
     ·rename_i hb
      simp only [Option.map_eq_some_iff] at hp
      obtain ⟨y, hy, he⟩ := hp
      simp at he; obtain ⟨rfl, rfl⟩ := he
      have := sim_index_agg (k := k) H ha hsz hb hy hx
      rw [← hu] at this
      exact this
     ·cases hp
    ·cases hp
   ·cases hp
  ·rename_i k n s hpi hpx
   rw [hpi] at hi
   have hu : ρv i = .int k n := RepT.int_inv hi
   have hx := PV.toT_rep hpx (hρ x)
   have hs : ρv x = .string s := by generalize ρv x = u at hx; cases hx; rfl
   split at hp
   ·rename_i ht
    split at hp
    ·rename_i hb
     simp only [Option.some.injEq, Prod.mk.injEq] at hp; obtain ⟨rfl, rfl⟩ := hp
     have := sim_index_str (k := k) H ht hb
     rw [← hu, ← hs] at this
     exact this
    ·cases hp
   ·cases hp
  ·cases hp
 ·rename_i t x lo hi mx
  have op : ∀ b : Option Operand, RepOp F φ h (b.map ρp) (b.map ρv) := fun b => by cases b with | none => trivial | some b => exact hρ b
  split at hp
  ·rename_i id ver sz o n full hpx
   have hx := hρ x
   rw [hpx] at hx
   simp only [Option.map_eq_some_iff] at hp
   obtain ⟨y, hy, he⟩ := hp
   simp at he; obtain ⟨rfl, rfl⟩ := he
   exact sim_sliceG H (op lo) (op hi) (op mx) hy hx
  ·split at hp
   ·rename_i a ha
    simp only [Option.map_eq_some_iff] at hp
    obtain ⟨y, hy, he⟩ := hp
    simp at he; obtain ⟨rfl, rfl⟩ := he
    exact sim_slice H (op lo) (op hi) (op mx) hy (PV.toT_rep ha (hρ x))
   ·cases hp
 ·rename_i x i
  have hx := hρ x
  split at hp
  ·rename_i vs hpx
   rw [hpx] at hx
   simp only [Option.map_eq_some_iff] at hp
   obtain ⟨y, hy, he⟩ := hp
   simp at he; obtain ⟨rfl, rfl⟩ := he
   have hx' : RepT F (.tup vs) (ρv x) := hx
   generalize hu : ρv x = u at hx'
   cases hx' with
   | tup _ us hl hr =>
    have hi : i < us.length := by have := (List.getElem?_eq_some_iff.1 hy).1; omega
    refine Sim.quiet H (u := us[i]) ?_ (hr i y _ hy (List.getElem?_eq_getElem hi))
    simp [execOp, hu, Instr.extract, hi]
  ·rename_i b p q hpx
   rw [hpx] at hx
   split at hp
   ·rename_i hb; subst hb
    simp only [Option.map_eq_some_iff] at hp
    obtain ⟨y, hy, he⟩ := hp
    simp at he; obtain ⟨rfl, rfl⟩ := he
    have hx2 := hx
    obtain ⟨v0, us0, hu, _⟩ := hx2
    obtain ⟨us, hus⟩ : ∃ us, v0 :: us0 = us := ⟨_, rfl⟩
    rw [hus] at hu
    obtain ⟨z, hz, rz⟩ := nthP_rep hy hx hu
    have hi : i < us.length := (List.getElem?_eq_some_iff.1 hz).1
    rw [List.getElem?_eq_getElem hi] at hz; cases hz
    refine Sim.quiet H (u := us[i]) ?_ rz
    simp [execOp, hu, mkV, Instr.extract, hi]
   ·cases hp
  ·cases hp
 ·rename_i b args ts
  unfold popB at hp
  split at hp
  ·rename_i t tsr x hts hargs
   have hts0 : ts[0]? = some t := by rw [← Array.getElem?_toList, hts]; rfl
   split at hp
   ·rename_i id ver sz o n full
    simp only [Option.map_eq_some_iff] at hp
    obtain ⟨e, he, he2⟩ := hp
    simp at he2; obtain ⟨rfl, rfl⟩ := he2
    obtain ⟨l⟩ := args
    obtain ⟨y, rfl⟩ : ∃ y, l = [y] := by
     cases l with
     | nil => simp at hargs
     | cons y l => cases l with
      | nil => exact ⟨y, rfl⟩
      | cons => simp at hargs
    simp at hargs
    have hy := hρ y
    rw [hargs] at hy
    obtain ⟨a, cap, ux, _⟩ := RepP.slice_of hy
    refine Sim.quiet H (u := .int .i64 n) ?_ (RepT.int _ _)
    simp [execOp, resolve, invoke, builtin, ux, run_lenG he hts0]
   ·rename_i cs n id
    simp only [Option.map_eq_some_iff] at hp
    obtain ⟨e, he, he2⟩ := hp
    simp at he2; obtain ⟨rfl, rfl⟩ := he2
    obtain ⟨l⟩ := args
    obtain ⟨y, rfl⟩ : ∃ y, l = [y] := by
     cases l with
     | nil => simp at hargs
     | cons y l => cases l with
      | nil => exact ⟨y, rfl⟩
      | cons => simp at hargs
    simp at hargs
    have hy := hρ y
    rw [hargs] at hy
    obtain ⟨a, cap, ux⟩ : ∃ a cap, ρv y = .slice a n cap := by
     rcases Nat.eq_zero_or_pos n with h0 | h0
     ·obtain ⟨_, ux⟩ := hy.1 h0; exact ⟨none, 0, by rw [ux, h0]⟩
     ·have := hy.2.1 h0
      generalize ρv y = u at this
      cases this with
      | sl _ _ _ a cap => exact ⟨_, _, rfl⟩
    refine Sim.quiet H (u := .int .i64 n) ?_ (RepT.int _ _)
    simp [execOp, resolve, invoke, builtin, ux, run_lenG he hts0]
   split at hp
   ·rename_i xt hxt
    simp only [Option.map_eq_some_iff] at hp
    obtain ⟨n, hn, he⟩ := hp
    simp at he; obtain ⟨rfl, rfl⟩ := he
    obtain ⟨l⟩ := args
    match l, hargs with
    | [y], hargs =>
     simp at hargs; subst hargs
     refine Sim.quiet H (u := .int .i64 n) ?_ (RepT.int _ _)
     simp [execOp, resolve, invoke, builtin, run_len hn (PV.toT_rep hxt (hρ y)) hts0]
   ·cases hp
  ·simp only [Option.bind_eq_some_iff, Option.map_eq_some_iff] at hp
   obtain ⟨l, hl, y, hy, he⟩ := hp
   simp at he; obtain ⟨rfl, rfl⟩ := he
   have hrl : RepL F l (args.toList.map ρv) := allO_toT (h := h) (φ := φ) hl (by simp) (fun i p u hp hu => by
    simp only [List.getElem?_map, Option.map_eq_some_iff] at hp hu
    obtain ⟨a, ha, rfl⟩ := hp
    obtain ⟨b, hb, rfl⟩ := hu
    rw [ha] at hb; cases hb
    exact hρ a)
   obtain ⟨q, hq, rq⟩ := run_min (P := P) (w := w) (ts := ts) (ty := type) hy hrl
   refine Sim.quiet H (u := q) ?_ rq
   have e : args.map ρv = (args.toList.map ρv).toArray := by apply Array.ext'; simp
   simp only [execOp, resolve, invoke, builtin, Sem.run_bind, Sem.run_pure, Result.andThen_ok, e, hq]
  ·simp only [Option.bind_eq_some_iff, Option.map_eq_some_iff] at hp
   obtain ⟨l, hl, y, hy, he⟩ := hp
   simp at he; obtain ⟨rfl, rfl⟩ := he
   have hrl : RepL F l (args.toList.map ρv) := allO_toT (h := h) (φ := φ) hl (by simp) (fun i p u hp hu => by
    simp only [List.getElem?_map, Option.map_eq_some_iff] at hp hu
    obtain ⟨a, ha, rfl⟩ := hp
    obtain ⟨b, hb, rfl⟩ := hu
    rw [ha] at hb; cases hb
    exact hρ a)
   obtain ⟨q, hq, rq⟩ := run_max (P := P) (w := w) (ts := ts) (ty := type) hy hrl
   refine Sim.quiet H (u := q) ?_ rq
   have e : args.map ρv = (args.toList.map ρv).toArray := by apply Array.ext'; simp
   simp only [execOp, resolve, invoke, builtin, Sem.run_bind, Sem.run_pure, Result.andThen_ok, e, hq]
  ·rename_i t t' s x hts hargs
   have hts' : ts = #[t, t'] := by apply Array.ext'; simpa using hts
   subst hts'
   obtain ⟨l⟩ := args
   match l, hargs with
   | [a, b], hargs =>
    simp at hargs; obtain ⟨rfl, rfl⟩ := hargs
    have := sim_appendG (ty := type) H hp (hρ a) (hρ b)
    simpa only [execOp, resolve, invoke, builtin, Sem.run_bind, Sem.run_pure, Result.andThen_ok, List.map_toArray, List.map_cons, List.map_nil] using this
  ·cases hp
 ·cases hp

theorem RH.freeze (H : RH P C F φ h w) {id : Nat} {cs : List TV} (hf : frozenO h id = some cs) :
  ∃ F', RH P C F' φ (upo h id (.ro cs)) w ∧ F.le F' ∧ HStep φ φ h (upo h id (.ro cs)) ∧ RepT F' (.cptr cs) (.pointer (some ⟨(φ id).1, 0, none⟩)) := by
 have hob := H.objs id
 unfold frozenO at hf
 split at hf
 ·rename_i cells hid
  have hlv : (h id).live = true := by rw [hid]; rfl
  rw [hid] at hob
  obtain ⟨us, ty, h1, h2, h3, h4⟩ := hob
  have hrl : RepL F cs us := by
   obtain ⟨e1, e2⟩ := allO_some hf
   refine ⟨by omega, fun i c u hc hu => ?_⟩
   have hi : i < cells.length := by have := (List.getElem?_eq_some_iff.1 hu).1; omega
   exact PV.toT_rep (e2 i _ c (List.getElem?_eq_getElem hi) hc) (h3 i _ u (List.getElem?_eq_getElem hi) hu).1
  have hone : ∀ (i : Nat) (u : Value), us[i]? = some u → u.oneCell' = true := fun i u hu => by
   have hi : i < cells.length := by have := (List.getElem?_eq_some_iff.1 hu).1; omega
   exact (h3 i _ u (List.getElem?_eq_getElem hi) hu).2
  have hle : F.le (F.with (φ id).1 us) := by
   intro a u hu
   unfold Fz.with
   split
   ·rename_i hc
    obtain ⟨b, o, s⟩ := a
    simp only at hc; obtain ⟨rfl, rfl⟩ := hc
    rw [h4 o] at hu; cases hu
   ·exact hu
  have hs : HStep φ (upd φ id (φ id)) h (upo h id (.ro cs)) := HStep.one (φ id) (by rw [hid]; exact ⟨.inr ⟨cs, rfl⟩, rfl⟩)
  have := H.put (F' := F.with (φ id).1 us) (w' := w) (.ro cs) (φ id) hs hle (fun a u hu => by
   unfold Fz.with at hu
   split at hu
   ·rename_i hc
    obtain ⟨b, o, s⟩ := a
    simp only at hc hu; obtain ⟨rfl, rfl⟩ := hc
    rw [look_at h1]; exact hu
   ·exact H.agree _ _ hu) (fun a u hu hn => by
   unfold Fz.with at hu
   split at hu
   ·rename_i hc; exact .inr ⟨hc.1, hlv⟩
   ·rw [hn] at hu; cases hu) (Bel.refl _ _) (.inr ⟨rfl, hlv⟩) ⟨us, ty, by rw [upd_self]; exact h1, hrl.mono hle, hone, fun i u hu => by rw [upd_self, Fz.with_at]; exact hu⟩
  rw [upd_self] at this hs
  exact ⟨_, this, hle, hs, .cptr cs _ us hrl.1 (fun i u hu => ⟨by rw [add_plain, Nat.zero_add, Fz.with_at]; exact hu, hone i u hu⟩) (hrl.mono hle).2⟩
 ·rename_i cells hid
  cases hf
  have e : upo h id (.ro cs) = h := by funext j; unfold upo; split <;> simp_all
  rw [e]
  rw [hid] at hob
  obtain ⟨us, ty, h1, h2, h3, h4⟩ := hob
  exact ⟨F, H, Fz.le_refl _, HStep.refl _ _, .cptr cs _ us h2.1 (fun i u hu => ⟨by rw [add_plain, Nat.zero_add]; exact h4 i u hu, h3 i u hu⟩) h2.2⟩
 ·cases hf

theorem frozenO_upo {id j : Nat} {cs : List TV} (hf : frozenO h id = some cs) : frozenO (upo h id (.ro cs)) j = frozenO h j := by
 by_cases e : j = id
 ·subst e; rw [hf]; unfold frozenO; rw [upo_same]
 ·unfold frozenO; rw [upo_other h _ e]

theorem RH.freezes : ∀ (ids : List Nat) (css : List (List TV)) {F : Fz} {h : Hp} (_ : RH P C F φ h w) (_ : allO (ids.map (frozenO h)) = some css),
  ∃ F', RH P C F' φ (wr h ((ids.zip css).map fun p => (p.1, PO.ro p.2))) w ∧ F.le F' ∧ RepL F' (css.map .cptr) (ids.map fun id => .pointer (some ⟨(φ id).1, 0, none⟩))
 | [], css, F, h, H, hc => by
  simp [allO] at hc; subst hc
  exact ⟨F, H, Fz.le_refl _, .nil⟩
 | id :: ids, css, F, h, H, hc => by
  simp only [List.map_cons] at hc
  cases hf : frozenO h id with
  | none => rw [hf] at hc; simp [allO] at hc
  | some cs =>
   rw [hf] at hc
   simp only [allO, Option.map_eq_some_iff] at hc
   obtain ⟨css', hc', rfl⟩ := hc
   obtain ⟨F1, H1, l1, _, r1⟩ := H.freeze hf
   obtain ⟨F2, H2, l2, r2⟩ := RH.freezes ids css' H1 (by
    have : ids.map (frozenO (upo h id (.ro cs))) = ids.map (frozenO h) := List.map_congr_left fun j _ => frozenO_upo hf
    rw [this]; exact hc')
   exact ⟨F2, H2, Fz.le_trans l1 l2, RepL.cons (r1.mono l2) r2⟩

theorem popF_sim (H : RH P C F φ h w) {ρp : Operand → PV} {ρv : Operand → Value} (hρ : ∀ x, RepP F φ h (ρp x) (ρv x)) {o : Oper} {v : PV} {W : Wr} {ids : List Nat} (hp : popF o.op ρp h = some (v, W, ids)) :
  Sim P C h ((execOp ρv o).run P w) v W := by
 obtain ⟨dst, op, type, pos, after, guard⟩ := o
 simp only at hp
 unfold popF at hp
 split at hp
 ·rename_i f first caps
  split at hp
  ·cases hp
  rename_i hfirst
  have : first = #[] := by simpa using hfirst
  subst this
  split at hp
  ·rename_i is his
   simp only [Option.map_eq_some_iff] at hp
   obtain ⟨css, hcss, he⟩ := hp
   simp at he; obtain ⟨rfl, rfl, rfl⟩ := he
   obtain ⟨hl, hs⟩ := allO_some his
   obtain ⟨F', H', hle, hrl⟩ := RH.freezes is css H hcss
   refine ⟨F', φ, .func (.func f) #[] (is.map fun id => Value.pointer (some ⟨(φ id).1, 0, none⟩)).toArray, w, .inl ?_, H', RepT.fn f [] _ [] _ rfl (by simp) hrl.1 hrl.2⟩
   have e : caps.map ρv = (is.map fun id => Value.pointer (some ⟨(φ id).1, 0, none⟩)).toArray := by
    apply Array.ext'
    rw [Array.toList_map]
    apply List.ext_getElem?
    intro i
    simp only [List.getElem?_map]
    cases hc : caps.toList[i]? with
    | none =>
     have : is[i]? = none := List.getElem?_eq_none (by rw [hl]; exact List.getElem?_eq_none_iff.1 hc)
     simp [this]
    | some c =>
     have hi : i < is.length := by rw [hl]; exact (List.getElem?_eq_some_iff.1 hc).1
     have h1 := hs i c is[i] hc (List.getElem?_eq_getElem hi)
     have h2 := hρ c
     rw [List.getElem?_eq_getElem hi]
     unfold capId at h1
     split at h1
     ·rename_i id' hpc
      simp at h1; subst h1
      rw [hpc] at h2
      simp [h2.2]
     ·cases h1
   simp [execOp, Instr.makeFunc, e]
  ·cases hp
 ·cases hp

theorem popM_sim (H : RH P C F φ h w) {ρp : Operand → PV} {ρv : Operand → Value} (hρ : ∀ x, RepP F φ h (ρp x) (ρv x)) {o : Oper} {v : PV} {rid : Nat} {W : Wr} (hp : popM P o.op ρp h rid = some (v, W)) :
  Sim P C h ((execOp ρv o).run P w) v W := by
 obtain ⟨dst, op, type, pos, after, guard⟩ := o
 simp only at hp
 unfold popM at hp
 split at hp
 ·rename_i t n parts
  simp only [Option.bind_eq_some_iff] at hp
  obtain ⟨cs, hcs, hp⟩ := hp
  split at hp
  ·rename_i e he
   split at hp
   ·rename_i sz by_ hsm
    split at hp
    ·rename_i hres
     simp at hp; obtain ⟨rfl, rfl⟩ := hp
     obtain ⟨i, z, hi, hz, hsz, hzs, hpos, hby, hb0, hco⟩ := smallO_some hsm
     cases hps : partsO ρp parts with
     | some ps =>
      rw [hps] at hcs
      simp only [cellsM, Option.map_eq_some_iff] at hcs
      obtain ⟨cs', hcs', rfl⟩ := hcs
      exact sim_buildSliceM H hρ hps hcs' he (by simp [szO, hi, hsz]) hco (isRes_iff.1 hres)
     | none =>
      rw [hps] at hcs
      exact sim_buildSliceP H hρ hcs he (by simp [szO, hi, hsz]) hco (isRes_iff.1 hres)
    ·cases hp
   ·cases hp
  ·cases hp
 ·rename_i t
  split at hp
  ·rename_i hc
   simp at hp; obtain ⟨rfl, rfl⟩ := hp
   exact sim_makeMapO H (isRes_iff.1 hc.2)
  ·cases hp
 ·rename_i t m k
  have hm := hρ m
  have hk := hρ k
  split at hp
  ·rename_i id i hpm hpk
   rw [hpm] at hm; rw [hpk] at hk
   have uk := RepT.int_inv hk
   have := sim_lookM H hp hm
   rw [← uk] at this
   exact this
  ·rename_i t' vs i hpm hpk
   rw [hpm] at hm; rw [hpk] at hk
   split at hp
   ·rename_i hc
    obtain ⟨rfl, hi, h0⟩ := hc
    simp only [Option.map_eq_some_iff] at hp
    obtain ⟨x, hx, he⟩ := hp
    simp at he; obtain ⟨rfl, rfl⟩ := he
    have uk := RepT.int_inv hk
    have := sim_lookF H hi h0 hx hm
    rw [← uk] at this
    exact this
   ·cases hp
  ·cases hp
 ·rename_i t m k x
  have hm := hρ m
  have hk := hρ k
  split at hp
  ·rename_i id i hpm hpk
   rw [hpm] at hm; rw [hpk] at hk
   have uk := RepT.int_inv hk
   have := sim_updM H hp hm (hρ x)
   rw [← uk] at this
   exact this
  ·cases hp
 ·rename_i args ts
  split at hp
  ·rename_i t t' s x hts hargs
   have hts' : ts = #[t, t'] := by apply Array.ext'; simpa using hts
   subst hts'
   obtain ⟨l⟩ := args
   match l, hargs with
   | [a, b], hargs =>
    simp at hargs; obtain ⟨rfl, rfl⟩ := hargs
    have := sim_appendG (ty := type) H hp (hρ a) (hρ b)
    simpa only [execOp, resolve, invoke, builtin, Sem.run_bind, Sem.run_pure, Result.andThen_ok, List.map_toArray, List.map_cons, List.map_nil] using this
  ·cases hp
 ·cases hp

/-! ### Rows that are never written again -/
theorem thawC_rep (H : RH P C F φ h w) {p : PV} {x : TV} {u : Value} (hp : thawC h p = some x) (hr : RepP F φ h p u) : RepT F x u := by
 unfold thawC at hp
 split at hp
 ·rename_i id ver sz o n full
  split at hp
  ·rename_i v cells e sz' hid
   split at hp
   ·rename_i hc
    obtain ⟨rfl, rfl, hle⟩ := hc
    cases hp
    have hob := H.objs id
    rw [hid] at hob
    obtain ⟨us, h1, h2, h3, h4, h5⟩ := hob
    obtain ⟨v', e', cap, a, q1, q2, rfl, q4, q5, q6, q7⟩ := hr
    rw [hid] at q1; cases q1
    obtain ⟨p1, p2, p3⟩ := q7 rfl
    have hmul : (o + n) * sz' = o * sz' + n * sz' := Nat.add_mul _ _ _
    have key : ∀ (i : Nat) (u : Value), ((us.drop (o * sz')).take (n * sz'))[i]? = some u → i < n * sz' ∧ us[o * sz' + i]? = some u := fun i u hu => by
     rw [List.getElem?_take] at hu
     split at hu
     ·rename_i hi
      rw [List.getElem?_drop] at hu
      exact ⟨hi, hu⟩
     ·cases hu
    refine .sl _ _ _ _ _ ((us.drop (o * sz')).take (n * sz')) (by simp only [List.length_take, List.length_drop]; omega) (fun i u hu => ?_) (fun i c u hc hu => ?_) q4 q6 q5
    ·obtain ⟨hi, hu'⟩ := key i u hu
     have h0 : 0 < cap := by
      rcases Nat.eq_zero_or_pos n with h0 | h0
      ·subst h0; omega
      ·omega
     obtain ⟨c, hc⟩ : ∃ c, cells[o * sz' + i]? = some c := ⟨_, List.getElem?_eq_getElem (by omega)⟩
     rw [addr_add_spot (p2 h0)]
     exact ⟨(h5 _ c u hc hu').2.2, (h5 _ c u hc hu').2.1⟩
    ·obtain ⟨hi, hu'⟩ := key i u hu
     rw [List.getElem?_take, if_pos hi, List.getElem?_drop] at hc
     exact (h5 _ c u hc hu').1
   ·cases hp
  ·cases hp
 ·rename_i id
  split at hp
  ·rename_i t vs hid
   cases hp
   have hob := H.objs id
   rw [hid] at hob
   obtain ⟨t', _, rfl⟩ := hr
   exact hob.2
  ·cases hp
 ·exact PV.toT_rep hp hr

theorem mkV_flag {b b' : Bool} {us us' : List Value} (h : mkV b us = mkV b' us') : b = b' := by
 cases b <;> cases b' <;> simp [mkV] at h ⊢
theorem thawA_rep (H : RH P C F φ h w) : ∀ {p : PV} {l : List TV} {b : Bool} {us : List Value}, thawA h p = some l → RepP F φ h p (mkV b us) → RepL F l us ∧ (b = false → Ones us)
 | .nil b', l, b, us, h1, hr => by
  simp [thawA] at h1; subst h1
  have : us = [] := mkV_inj (show mkV b us = mkV b' [] from hr)
  subst this
  exact ⟨.nil, fun _ i u hu => by simp at hu⟩
 | .cons b' p q, l, b, us, h1, hr => by
  simp only [thawA] at h1
  split at h1
  ·rename_i x l' hx hl
   cases h1
   obtain ⟨v, us', hu, r1, r2, r3⟩ := hr
   have e := mkV_inj hu
   have e2 := mkV_flag hu
   subst e; subst e2
   obtain ⟨i1, i2⟩ := thawA_rep H hl r2
   refine ⟨RepL.cons (thawC_rep H hx r1) i1, fun hb i u hi => ?_⟩
   cases i with
   | zero => simp at hi; subst hi; exact r3 hb
   | succ i => exact i2 hb i u (by simpa using hi)
  ·cases h1
 | .t _, _, _, _, hn, _ => by simp [thawA] at hn
 | .ptr _ _, _, _, _, hn, _ => by simp [thawA] at hn
 | .own _ _ _, _, _, _, hn, _ => by simp [thawA] at hn
 | .fnc _ _, _, _, _, hn, _ => by simp [thawA] at hn
 | .yld _, _, _, _, hn, _ => by simp [thawA] at hn
 | .mth _ _, _, _, _, hn, _ => by simp [thawA] at hn
 | .cond _ _, _, _, _, hn, _ => by simp [thawA] at hn
 | .gsl _ _ _ _ _ _, _, _, _, hn, _ => by simp [thawA] at hn
 | .gptr _ _ _, _, _, _, hn, _ => by simp [thawA] at hn
 | .mapr _, _, _, _, hn, _ => by simp [thawA] at hn
 | .junk, _, _, _, hn, _ => by simp [thawA] at hn

theorem thawP_rep (H : RH P C F φ h w) {p : PV} {u : Value} (hr : RepP F φ h p u) : RepP F φ h (thawP h p) u := by
 unfold thawP
 split
 ·rename_i b p q
  split
  ·rename_i l hl
   have hr2 := hr
   obtain ⟨v, us, hu, _⟩ := hr2
   rw [hu] at hr
   obtain ⟨r1, r2⟩ := thawA_rep H hl hr
   rw [hu]
   cases b with
   | true => exact RepT.tup _ _ r1.1 r1.2
   | false => exact RepT.agg _ _ r1.1 (r2 rfl) r1.2
  ·exact hr
 ·split
  ·rename_i x hx
   exact thawC_rep H hx hr
  ·exact hr

theorem RH.freezeRow (H : RH P C F φ h w) {id : Nat} {o : PO} (hf : freezeO h id = some o) : ∃ F', RH P C F' φ (upo h id o) w ∧ F.le F' ∧ HStep φ φ h (upo h id o) := by
 have hob := H.objs id
 unfold freezeO at hf
 split at hf
 ·rename_i v cells e sz hid
  simp only [Option.map_eq_some_iff] at hf
  obtain ⟨cs, hcs, rfl⟩ := hf
  have hlv : (h id).live = true := by rw [hid]; rfl
  rw [hid] at hob
  obtain ⟨us, h1, h2, h3, h4, h5, h6⟩ := hob
  obtain ⟨e1, e2⟩ := allO_some hcs
  have hle : F.le (F.with (φ id).1 (us.take cells.length)) := by
   intro a u hu
   unfold Fz.with
   split
   ·rename_i hc
    obtain ⟨b, o, s⟩ := a
    simp only at hc; obtain ⟨rfl, rfl⟩ := hc
    rw [h6 o] at hu; cases hu
   ·exact hu
  have hs : HStep φ (upd φ id (φ id)) h (upo h id (.gro v cs e sz)) := HStep.one (φ id) (by rw [hid]; exact ⟨v, rfl, Nat.le_refl _, fun _ => rfl⟩)
  have := H.put (F' := F.with (φ id).1 (us.take cells.length)) (w' := w) (.gro v cs e sz) (φ id) hs hle (fun a u hu => by
   unfold Fz.with at hu
   split at hu
   ·rename_i hc
    obtain ⟨b, o, s⟩ := a
    simp only at hc hu; obtain ⟨rfl, rfl⟩ := hc
    rw [look_at h1]
    rw [List.getElem?_take] at hu
    split at hu
    ·exact hu
    ·cases hu
   ·exact H.agree _ _ hu) (fun a u hu hn => by
   unfold Fz.with at hu
   split at hu
   ·rename_i hc; exact .inr ⟨hc.1, hlv⟩
   ·rw [hn] at hu; cases hu) (Bel.refl _ _) (.inr ⟨rfl, hlv⟩) ⟨us, by rw [upd_self]; exact h1, by rw [upd_self]; exact h2, by omega, h4, fun i c u hc hu => by
    have hi : i < cells.length := by have := (List.getElem?_eq_some_iff.1 hc).1; omega
    have hci : cells[i]? = some cells[i] := List.getElem?_eq_getElem hi
    have := h5 i _ u hci hu
    refine ⟨(thawC_rep H (e2 i _ c hci hc) this.1).mono hle, this.2, ?_⟩
    rw [upd_self, Fz.with_at, List.getElem?_take, if_pos hi]; exact hu⟩
  rw [upd_self] at this hs
  exact ⟨_, this, hle, hs⟩
 ·rename_i v cells e sz hid
  cases hf
  have e : upo h id (.gro v cells e sz) = h := by funext j; unfold upo; split <;> simp_all
  rw [e]
  exact ⟨F, H, Fz.le_refl _, HStep.refl _ _⟩
 ·rename_i t ps hid
  simp only [Option.map_eq_some_iff] at hf
  obtain ⟨cs, hcs, rfl⟩ := hf
  have hlv : (h id).live = true := by rw [hid]; rfl
  rw [hid] at hob
  obtain ⟨es, clock, kv, h1, h2, h3, h4⟩ := hob
  obtain ⟨e1, e2⟩ := allO_some hcs
  have hsame : look w ⟨(φ id).1, 0, some 0⟩ = some (mapV kv) := by
   unfold look
   simp only [h1, and_self, if_true, Option.some.injEq]
   unfold mapV
   congr 2
   have := congrArg (List.map fun p : Value × Value => Value.tuple #[p.1, p.2]) h2
   simp only [List.map_map] at this
   exact this
  let F1 : Fz := fun a => if a = ⟨(φ id).1, 0, some 0⟩ then some (mapV kv) else F a
  have hle : F.le F1 := by
   intro a u hu
   show (if a = _ then _ else _) = some u
   split
   ·rename_i hc
    rw [h4 a (by rw [hc])] at hu; cases hu
   ·exact hu
  have hs : HStep φ (upd φ id (φ id)) h (upo h id (.mfz t cs)) := HStep.one (φ id) (by rw [hid]; exact ⟨rfl, rfl⟩)
  have := H.put (F' := F1) (w' := w) (.mfz t cs) (φ id) hs hle (fun a u hu => by
   have hu' : (if a = _ then _ else _) = some u := hu
   split at hu'
   ·rename_i hc; subst hc; rw [hsame]; exact hu'
   ·exact H.agree _ _ hu') (fun a u hu hn => by
   have hu' : (if a = _ then _ else _) = some u := hu
   split at hu'
   ·rename_i hc; exact .inr ⟨by rw [hc], hlv⟩
   ·rw [hn] at hu'; cases hu') (Bel.refl _ _) (.inr ⟨rfl, hlv⟩) ⟨⟨es, clock, by rw [upd_self]; exact h1⟩, by
    rw [upd_self]
    refine .imap t cs _ kv (ps.zipIdx.map fun p => lookI kv p.2) (by show (if _ then _ else _) = _; rw [if_pos rfl]) (by simp [e1]) (fun i u hu => ?_) (fun i c u hc hu => ?_)
    ·simp only [List.getElem?_map, Option.map_eq_some_iff, List.getElem?_zipIdx] at hu
     obtain ⟨q, ⟨p, hp, rfl⟩, rfl⟩ := hu
     simp
    ·simp only [List.getElem?_map, Option.map_eq_some_iff, List.getElem?_zipIdx] at hu
     obtain ⟨q, ⟨p, hp, rfl⟩, rfl⟩ := hu
     simp only [Nat.zero_add]
     exact (thawC_rep H (e2 i p c hp hc) (h3 i p hp)).mono hle⟩
  rw [upd_self] at this hs
  exact ⟨_, this, hle, hs⟩
 ·rename_i t vs hid
  cases hf
  have e : upo h id (.mfz t vs) = h := by funext j; unfold upo; split <;> simp_all
  rw [e]
  exact ⟨F, H, Fz.le_refl _, HStep.refl _ _⟩
 ·rename_i t m hid
  cases hf
  have e : upo h id (.mp t m) = h := by funext j; unfold upo; split <;> simp_all
  rw [e]
  exact ⟨F, H, Fz.le_refl _, HStep.refl _ _⟩
 ·cases hf

theorem RH.freezeRows : ∀ (ids : List Nat) {W : Wr} {F : Fz} {h : Hp} (_ : RH P C F φ h w) (_ : freezeW h ids = some W), ∃ F', RH P C F' φ (wr h W) w ∧ F.le F' ∧ HStep φ φ h (wr h W)
 | [], W, F, h, H, hw => by simp [freezeW] at hw; subst hw; exact ⟨F, H, Fz.le_refl _, HStep.refl _ _⟩
 | id :: ids, W, F, h, H, hw => by
  simp only [freezeW] at hw
  split at hw
  ·rename_i o ho
   simp only [Option.map_eq_some_iff] at hw
   obtain ⟨W', hw', rfl⟩ := hw
   obtain ⟨F1, H1, l1, s1⟩ := H.freezeRow ho
   obtain ⟨F2, H2, l2, s2⟩ := RH.freezeRows ids H1 hw'
   exact ⟨F2, H2, Fz.le_trans l1 l2, s1.trans s2⟩
  ·cases hw

end Go.Pm

/- Part QmJ. -/
namespace Go.Pm
open Go Go.RowKit

variable {P : Program} {C : Cx} {F F' : Fz} {φ φ' φl φl' : Nat → Nat × Nat} {h h' hl hl' : Hp} {w w' : World}

structure Ren (ids : List Nat) (φ : Nat → Nat × Nat) (h : Hp) (φl : Nat → Nat × Nat) (hl : Hp) : Prop where
 at_ : ∀ (i j : Nat), ids[i]? = some j → h j = (hl i).ren ids ∧ φ j = φl i
 out : ∀ i, ids.length ≤ i → hl i = .res

theorem getD_of {ids : List Nat} {i j : Nat} (h : ids[i]? = some j) : ids.getD i 0 = j := by rw [List.getD_eq_getElem?_getD, h]; rfl
theorem at_lt {ids : List Nat} {i : Nat} (h : i < ids.length) : ids[i]? = some (ids.getD i 0) := by rw [List.getD_eq_getElem?_getD, List.getElem?_eq_getElem h]; rfl

theorem Ren.box {ids : List Nat} (R : Ren ids φ h φl hl) {i : Nat} (hi : i < ids.length) : isBox h (ids.getD i 0) ↔ isBox hl i := by
 have := (R.at_ i _ (at_lt hi)).1
 unfold isBox
 rw [this]
 cases hl i with
 | box c => simp [PO.ren]
 | ro c => simp [PO.ren]
 | _ => simp [PO.ren]
theorem Ren.lt_of_box {ids : List Nat} (R : Ren ids φ h φl hl) {i : Nat} (hb : isBox hl i) : i < ids.length := by
 rcases Nat.lt_or_ge i ids.length with h1 | h1
 ·exact h1
 ·rcases hb with ⟨c, hc⟩ | ⟨c, hc⟩ <;> (rw [R.out i h1] at hc; cases hc)
theorem Ren.grow {ids : List Nat} (R : Ren ids φ h φl hl) {i : Nat} (hi : i < ids.length) : growInfo (h (ids.getD i 0)) = growInfo (hl i) := by
 rw [(R.at_ i _ (at_lt hi)).1]; cases hl i <;> rfl
theorem Ren.map {ids : List Nat} (R : Ren ids φ h φl hl) {i : Nat} (hi : i < ids.length) : mapInfo (h (ids.getD i 0)) = mapInfo (hl i) := by
 rw [(R.at_ i _ (at_lt hi)).1]; cases hl i <;> rfl
theorem Ren.lt_of {ids : List Nat} (R : Ren ids φ h φl hl) {i : Nat} (hb : hl i ≠ .res) : i < ids.length := by
 rcases Nat.lt_or_ge i ids.length with h1 | h1
 ·exact h1
 ·exact absurd (R.out i h1) hb
theorem Ren.live {ids : List Nat} (R : Ren ids φ h φl hl) {i j : Nat} (hi : ids[i]? = some j) : (h j).live = (hl i).live := by
 rw [(R.at_ i j hi).1]; cases hl i <;> rfl
theorem Ren.lt_of_live {ids : List Nat} (R : Ren ids φ h φl hl) {i : Nat} (hb : (hl i).live = true) : i < ids.length := by
 rcases Nat.lt_or_ge i ids.length with h1 | h1
 ·exact h1
 ·rw [R.out i h1] at hb; cases hb

theorem Ren.down {ids : List Nat} (R : Ren ids φ h φl hl) {p : PV} {u : Value} (hu : p.under ids.length = true) (hr : RepP F φ h (p.ren ids) u) : RepP F φl hl p u := by
 induction p generalizing u with
 | t x => exact hr
 | ptr i off =>
  have hi : i < ids.length := by simpa [PV.under] using hu
  obtain ⟨h1, h2⟩ := hr
  exact ⟨(R.box hi).1 h1, by rw [h2, (R.at_ i _ (at_lt hi)).2]⟩
 | own cs n i =>
  have hi : i < ids.length := by simpa [PV.under] using hu
  obtain ⟨h0, h1, m, e, h2, h3, h4⟩ := hr
  have ho := (R.at_ i _ (at_lt hi)).1
  rw [h2] at ho
  have h2' : hl i = .tok m e := by cases hh : hl i <;> rw [hh] at ho <;> simp [PO.ren] at ho; rw [ho.1, ho.2]
  exact ⟨h0, h1, m, e, h2', h3, fun e' hp => by rw [h4 e' hp, (R.at_ i _ (at_lt hi)).2]⟩
 | fnc f is =>
  have hi : ∀ i ∈ is, i < ids.length := by simpa [PV.under, List.all_eq_true] using hu
  obtain ⟨h1, h2⟩ := hr
  refine ⟨fun i him => (R.box (hi i him)).1 (h1 _ (List.mem_map.2 ⟨i, him, rfl⟩)), ?_⟩
  rw [h2, List.map_map]
  congr 2
  exact List.map_congr_left fun i him => by simp only [Function.comp]; rw [(R.at_ i _ (at_lt (hi i him))).2]
 | yld l => exact hr
 | mth => exact hr
 | cond b p ih => exact ⟨fun hb => ih (by simpa [PV.under] using hu) (hr.1 hb), hr.2⟩
 | gsl i ver sz o n full =>
  have hi : i < ids.length := by simpa [PV.under] using hu
  obtain ⟨v, e, cap, a, h1, h2, h3, h4, h5, h6, h7⟩ := hr
  rw [R.grow hi] at h1
  rw [(R.at_ i _ (at_lt hi)).2] at h7
  exact ⟨v, e, cap, a, h1, h2, h3, h4, h5, h6, h7⟩
 | gptr i ver off =>
  have hi : i < ids.length := by simpa [PV.under] using hu
  obtain ⟨v, e, sz, a, h1, h2, h3, h4⟩ := hr
  rw [R.grow hi] at h1
  rw [(R.at_ i _ (at_lt hi)).2] at h4
  exact ⟨v, e, sz, a, h1, h2, h3, h4⟩
 | mapr i =>
  have hi : i < ids.length := by simpa [PV.under] using hu
  obtain ⟨t, h1, h2⟩ := hr
  rw [R.map hi] at h1
  rw [(R.at_ i _ (at_lt hi)).2] at h2
  exact ⟨t, h1, h2⟩
 | nil => exact hr
 | cons b p q ih1 ih2 =>
  simp only [PV.under, Bool.and_eq_true] at hu
  obtain ⟨v, us, h1, h2, h3, h4⟩ := hr
  exact ⟨v, us, h1, ih1 hu.1 h2, ih2 hu.2 h3, h4⟩
 | junk => trivial
theorem Ren.up {ids : List Nat} (R : Ren ids φ h φl hl) {p : PV} {u : Value} (hr : RepP F φl hl p u) : RepP F φ h (p.ren ids) u := by
 induction p generalizing u with
 | t x => exact hr
 | ptr i off =>
  obtain ⟨h1, h2⟩ := hr
  have hi := R.lt_of_box h1
  exact ⟨(R.box hi).2 h1, by rw [h2, (R.at_ i _ (at_lt hi)).2]⟩
 | own cs n i =>
  obtain ⟨h0, h1, m, e, h2, h3, h4⟩ := hr
  have hi : i < ids.length := R.lt_of (fun e => by rw [e] at h2; cases h2)
  have ho := (R.at_ i _ (at_lt hi)).1
  rw [h2] at ho
  exact ⟨h0, h1, m, e, ho, h3, fun e' hp => by rw [h4 e' hp, (R.at_ i _ (at_lt hi)).2]⟩
 | fnc f is =>
  obtain ⟨h1, h2⟩ := hr
  refine ⟨fun j hj => ?_, ?_⟩
  ·obtain ⟨i, him, rfl⟩ := List.mem_map.1 hj
   exact (R.box (R.lt_of_box (h1 i him))).2 (h1 i him)
  ·rw [h2, List.map_map]
   congr 2
   exact List.map_congr_left fun i him => by simp only [Function.comp]; rw [(R.at_ i _ (at_lt (R.lt_of_box (h1 i him)))).2]
 | yld l => exact hr
 | mth => exact hr
 | cond b p ih => exact ⟨fun hb => ih (hr.1 hb), hr.2⟩
 | gsl i ver sz o n full =>
  obtain ⟨v, e, cap, a, h1, h2, h3, h4, h5, h6, h7⟩ := hr
  have hi : i < ids.length := R.lt_of (fun e => by rw [e] at h1; cases h1)
  rw [← R.grow hi] at h1
  rw [← (R.at_ i _ (at_lt hi)).2] at h7
  exact ⟨v, e, cap, a, h1, h2, h3, h4, h5, h6, h7⟩
 | gptr i ver off =>
  obtain ⟨v, e, sz, a, h1, h2, h3, h4⟩ := hr
  have hi : i < ids.length := R.lt_of (fun e => by rw [e] at h1; cases h1)
  rw [← R.grow hi] at h1
  rw [← (R.at_ i _ (at_lt hi)).2] at h4
  exact ⟨v, e, sz, a, h1, h2, h3, h4⟩
 | mapr i =>
  obtain ⟨t, h1, h2⟩ := hr
  have hi : i < ids.length := R.lt_of (fun e => by rw [e] at h1; cases h1)
  rw [← R.map hi] at h1
  rw [← (R.at_ i _ (at_lt hi)).2] at h2
  exact ⟨t, h1, h2⟩
 | nil => exact hr
 | cons b p q ih1 ih2 =>
  obtain ⟨v, us, h1, h2, h3, h4⟩ := hr
  exact ⟨v, us, h1, ih1 h2, ih2 h3, h4⟩
 | junk => trivial

theorem Ren.objDown {ids : List Nat} (R : Ren ids φ h φl hl) {i j : Nat} (hi : ids[i]? = some j) (hu : (hl i).under ids.length = true) (hr : RepO P F φ h w j (h j)) : RepO P F φl hl w i (hl i) := by
 obtain ⟨e1, e2⟩ := R.at_ i j hi
 rw [e1] at hr
 cases ho : hl i with
 | box cells =>
  rw [ho] at hr hu
  obtain ⟨us, ty, h1, h2, h3, h4⟩ := hr
  refine ⟨us, ty, by rw [← e2]; exact h1, by simpa using h2, fun k c u hc hku => ?_, fun k => by rw [← e2]; exact h4 k⟩
  have := h3 k (c.ren ids) u (by rw [List.getElem?_map, hc]; rfl) hku
  have hcu : c.under ids.length = true := by
   simp only [PO.under, List.all_eq_true] at hu
   exact hu c (List.mem_of_getElem? hc)
  exact ⟨R.down hcu this.1, this.2⟩
 | ro cells =>
  rw [ho] at hr
  obtain ⟨us, ty, h1, h2, h3, h4⟩ := hr
  exact ⟨us, ty, by rw [← e2]; exact h1, h2, h3, fun k u hk => by rw [← e2]; exact h4 k u hk⟩
 | grow v cells e sz =>
  rw [ho] at hr hu
  obtain ⟨us, h1, h2, h3, h4, h5, h6⟩ := hr
  refine ⟨us, by rw [← e2]; exact h1, by rw [← e2]; exact h2, by simpa using h3, h4, fun k c u hc hku => ?_, fun k => by rw [← e2]; exact h6 k⟩
  have := h5 k (c.ren ids) u (by rw [List.getElem?_map, hc]; rfl) hku
  have hcu : c.under ids.length = true := by
   simp only [PO.under, List.all_eq_true] at hu
   exact hu c (List.mem_of_getElem? hc)
  exact ⟨R.down hcu this.1, this.2⟩
 | gro v cells e sz =>
  rw [ho] at hr
  obtain ⟨us, h1, h2, h3, h4, h5⟩ := hr
  exact ⟨us, by rw [← e2]; exact h1, by rw [← e2]; exact h2, h3, h4, fun k c u hc hku => by rw [← e2]; exact h5 k c u hc hku⟩
 | mp t m =>
  rw [ho] at hr
  obtain ⟨es, clock, ents, h1, h2, h3, h4, h5⟩ := hr
  exact ⟨es, clock, ents, by rw [← e2]; exact h1, h2, h3, h4, by rw [← e2]; exact h5⟩
 | mpo t cells =>
  rw [ho] at hr hu
  obtain ⟨es, clock, kv, h1, h2, h3, h4⟩ := hr
  refine ⟨es, clock, kv, by rw [← e2]; exact h1, h2, fun k c hc => ?_, by rw [← e2]; exact h4⟩
  have := h3 k (c.ren ids) (by rw [List.getElem?_map, hc]; rfl)
  have hcu : c.under ids.length = true := by
   simp only [PO.under, List.all_eq_true] at hu
   exact hu c (List.mem_of_getElem? hc)
  exact R.down hcu this
 | mfz t vs =>
  rw [ho] at hr
  obtain ⟨⟨es, clock, h1⟩, h2⟩ := hr
  exact ⟨⟨es, clock, by rw [← e2]; exact h1⟩, by rw [← e2]; exact h2⟩
 | tok n e =>
  rw [ho] at hr
  intro h0
  obtain ⟨us, h1, h2, h3, h4⟩ := hr h0
  exact ⟨us, by rw [← e2]; exact h1, by rw [← e2]; exact h2, by rw [← e2]; exact h3, fun k hk => by rw [← e2]; exact h4 k hk⟩
 | cnt => trivial
 | res => trivial
theorem Ren.objUp {ids : List Nat} (R : Ren ids φ h φl hl) {i j : Nat} (hi : ids[i]? = some j) (hr : RepO P F φl hl w i (hl i)) : RepO P F φ h w j (h j) := by
 obtain ⟨e1, e2⟩ := R.at_ i j hi
 rw [e1]
 cases ho : hl i with
 | box cells =>
  rw [ho] at hr
  obtain ⟨us, ty, h1, h2, h3, h4⟩ := hr
  refine ⟨us, ty, by rw [e2]; exact h1, by simpa using h2, fun k c u hc hku => ?_, fun k => by rw [e2]; exact h4 k⟩
  rw [List.getElem?_map, Option.map_eq_some_iff] at hc
  obtain ⟨c', hc', rfl⟩ := hc
  have := h3 k c' u hc' hku
  exact ⟨R.up this.1, this.2⟩
 | ro cells =>
  rw [ho] at hr
  obtain ⟨us, ty, h1, h2, h3, h4⟩ := hr
  exact ⟨us, ty, by rw [e2]; exact h1, h2, h3, fun k u hk => by rw [e2]; exact h4 k u hk⟩
 | grow v cells e sz =>
  rw [ho] at hr
  obtain ⟨us, h1, h2, h3, h4, h5, h6⟩ := hr
  refine ⟨us, by rw [e2]; exact h1, by rw [e2]; exact h2, by simpa using h3, h4, fun k c u hc hku => ?_, fun k => by rw [e2]; exact h6 k⟩
  rw [List.getElem?_map, Option.map_eq_some_iff] at hc
  obtain ⟨c', hc', rfl⟩ := hc
  have := h5 k c' u hc' hku
  exact ⟨R.up this.1, this.2⟩
 | gro v cells e sz =>
  rw [ho] at hr
  obtain ⟨us, h1, h2, h3, h4, h5⟩ := hr
  exact ⟨us, by rw [e2]; exact h1, by rw [e2]; exact h2, h3, h4, fun k c u hc hku => by rw [e2]; exact h5 k c u hc hku⟩
 | mp t m =>
  rw [ho] at hr
  obtain ⟨es, clock, ents, h1, h2, h3, h4, h5⟩ := hr
  exact ⟨es, clock, ents, by rw [e2]; exact h1, h2, h3, h4, by rw [e2]; exact h5⟩
 | mpo t cells =>
  rw [ho] at hr
  obtain ⟨es, clock, kv, h1, h2, h3, h4⟩ := hr
  refine ⟨es, clock, kv, by rw [e2]; exact h1, h2, fun k c hc => ?_, by rw [e2]; exact h4⟩
  rw [List.getElem?_map, Option.map_eq_some_iff] at hc
  obtain ⟨c', hc', rfl⟩ := hc
  exact R.up (h3 k c' hc')
 | mfz t vs =>
  rw [ho] at hr
  obtain ⟨⟨es, clock, h1⟩, h2⟩ := hr
  exact ⟨⟨es, clock, by rw [e2]; exact h1⟩, by rw [e2]; exact h2⟩
 | tok n e =>
  rw [ho] at hr
  intro h0
  obtain ⟨us, h1, h2, h3, h4⟩ := hr h0
  exact ⟨us, by rw [e2]; exact h1, by rw [e2]; exact h2, by rw [e2]; exact h3, fun k hk => by rw [e2]; exact h4 k hk⟩
 | cnt => trivial
 | res => trivial

def renW (ids : List Nat) (hl' : Hp) : Wr := (List.range ids.length).map fun i => (ids.getD i 0, (hl' i).ren ids)
theorem wr_append (h : Hp) (W W' : Wr) : wr h (W ++ W') = wr (wr h W) W' := by simp [wr]
theorem wr_out : ∀ (W : Wr) (h : Hp) (j : Nat), (∀ o, (j, o) ∉ W) → wr h W j = h j
 | [], _, _, _ => rfl
 | p :: W, h, j, hj => by
  show wr (upo h p.1 p.2) W j = _
  rw [wr_out W _ j fun o ho => hj o (List.mem_cons_of_mem _ ho), upo_other]
  rintro rfl; exact hj p.2 List.mem_cons_self
theorem wr_in : ∀ (W : Wr) (h : Hp) (j : Nat) (o : PO), (W.map (·.1)).Nodup → (j, o) ∈ W → wr h W j = o
 | p :: W, h, j, o, hn, hj => by
  show wr (upo h p.1 p.2) W j = _
  simp only [List.map_cons, List.nodup_cons] at hn
  rcases List.mem_cons.1 hj with e | hj
  ·subst e
   rw [wr_out W _ _ fun o' ho' => hn.1 (List.mem_map.2 ⟨_, ho', rfl⟩), upo_same]
  ·exact wr_in W _ j o hn.2 hj
theorem renW_fst (ids : List Nat) (hl' : Hp) : (renW ids hl').map (·.1) = ids := by
 unfold renW
 rw [List.map_map]
 apply List.ext_getElem?
 intro i
 by_cases hi : i < ids.length
 ·simp [hi, List.getD_eq_getElem?_getD]
 ·simp [hi, List.getElem?_eq_none (Nat.le_of_not_lt hi)]
theorem renW_at {ids : List Nat} (hn : ids.Nodup) {i j : Nat} (hi : ids[i]? = some j) : wr h (renW ids hl') j = (hl' i).ren ids := by
 refine wr_in _ _ _ _ (by rw [renW_fst]; exact hn) (List.mem_map.2 ⟨i, List.mem_range.2 (List.getElem?_eq_some_iff.1 hi).1, ?_⟩)
 rw [getD_of hi]
theorem renW_out {ids : List Nat} {j : Nat} (hj : j ∉ ids) : wr h (renW ids hl') j = h j := by
 refine wr_out _ _ _ fun o ho => hj ?_
 rw [← renW_fst ids hl']
 exact List.mem_map.2 ⟨_, ho, rfl⟩

theorem nodup_at {ids : List Nat} (hn : ids.Nodup) {i i' j : Nat} (h1 : ids[i]? = some j) (h2 : ids[i']? = some j) : i = i' := by
 obtain ⟨l1, e1⟩ := List.getElem?_eq_some_iff.1 h1
 obtain ⟨l2, e2⟩ := List.getElem?_eq_some_iff.1 h2
 exact (List.getElem_inj hn).1 (e1.trans e2.symm)

theorem RH.sub (H : RH P C F φ h w) {ids : List Nat} (hn : ids.Nodup) (R : Ren ids φ h φl hl) (hu : ∀ (i j : Nat), ids[i]? = some j → (hl i).under ids.length = true) : RH P (loc w F φl hl) F φl hl w := by
 refine ⟨H.agree, Fz.le_refl _, fun a u h1 h2 => (by rw [show F a = none from h2] at h1; cases h1), fun i => ?_, fun i j li lj e => ?_, fun i li => .inr ⟨i, li, rfl⟩, Bel.refl _ _, HStep.refl _ _, H.glob⟩
 ·rcases Nat.lt_or_ge i ids.length with hi | hi
  ·exact R.objDown (at_lt hi) (hu i _ (at_lt hi)) (H.objs _)
  ·rw [R.out i hi]; trivial
 ·have hi := at_lt (R.lt_of_live li)
  have hj := at_lt (R.lt_of_live lj)
  have e2 := H.inj _ _ (by rw [R.live hi]; exact li) (by rw [R.live hj]; exact lj) (by rw [(R.at_ _ _ hi).2, (R.at_ _ _ hj).2]; exact e)
  rw [e2] at hi
  exact nodup_at hn hi hj

theorem RH.join (H : RH P C F φ h w) {ids : List Nat} (hn : ids.Nodup) (R : Ren ids φ h φl hl) (H' : RH P (loc w F φl hl) F' φl' hl' w') (hout : ∀ i, ids.length ≤ i → hl' i = .res) :
  ∃ φ', RH P C F' φ' (wr h (renW ids hl')) w' ∧ Ren ids φ' (wr h (renW ids hl')) φl' hl' := by
 let φ' : Nat → Nat × Nat := fun j => if j ∈ ids then φl' (ids.idxOf j) else φ j
 have hin : ∀ (i j : Nat), ids[i]? = some j → φ' j = φl' i := by
  intro i j hi
  have hm : j ∈ ids := List.mem_of_getElem? hi
  show (if j ∈ ids then φl' (ids.idxOf j) else φ j) = _
  rw [if_pos hm]
  have : ids[ids.idxOf j]? = some j := by rw [List.getElem?_eq_getElem (List.idxOf_lt_length_iff.2 hm)]; simp
  rw [nodup_at hn this hi]
 have hnot : ∀ j, j ∉ ids → φ' j = φ j := fun j hj => if_neg hj
 have R' : Ren ids φ' (wr h (renW ids hl')) φl' hl' := ⟨fun i j hi => ⟨renW_at hn hi, hin i j hi⟩, hout⟩
 have hmem : ∀ j, j ∈ ids → ∃ i, ids[i]? = some j := fun j hj => by
  obtain ⟨i, hi, e⟩ := List.getElem_of_mem hj
  exact ⟨i, by rw [List.getElem?_eq_getElem hi, e]⟩
 have hown : ∀ b, own φl hl b → own φ h b := by
  rintro b ⟨i, li, e⟩
  have hi := at_lt (R.lt_of_live li)
  exact ⟨_, by rw [R.live hi]; exact li, by rw [(R.at_ _ _ hi).2]; exact e⟩
 have hapart : ∀ j, j ∉ ids → (h j).live = true → ¬ own φl hl (φ j).1 := by
  rintro j hj lj ⟨i, li, e⟩
  have hi := at_lt (R.lt_of_live li)
  have := H.inj _ j (by rw [R.live hi]; exact li) lj (by rw [(R.at_ _ _ hi).2]; exact e)
  exact hj (this ▸ List.mem_of_getElem? hi)
 have hs : HStep φ φ' h (wr h (renW ids hl')) := by
  intro j
  by_cases hj : j ∈ ids
  ·obtain ⟨i, hi⟩ := hmem j hj
   have hst := H'.step i
   obtain ⟨a1, a2⟩ := R.at_ i j hi
   have e1 := hin i j hi
   have b1 := renW_at (h := h) (hl' := hl') hn hi
   change (match hl i with
    | .box _ => isBox hl' i ∧ φl' i = φl i
    | .ro c => hl' i = .ro c ∧ φl' i = φl i
    | .grow v _ e sz => ∃ v', growInfo (hl' i) = some (v', e, sz) ∧ v ≤ v' ∧ (v' = v → φl' i = φl i)
    | .gro v c e sz => hl' i = .gro v c e sz ∧ φl' i = φl i
    | .mp t _ => mapInfo (hl' i) = some t ∧ φl' i = φl i
    | .mpo t _ => mapInfo (hl' i) = some t ∧ φl' i = φl i
    | .mfz t _ => mapInfo (hl' i) = some t ∧ φl' i = φl i
    | .tok n e => ∃ n', hl' i = .tok n' e ∧ n ≤ n' ∧ (n' = n → φl' i = φl i)
    | .cnt _ => ∃ n, hl' i = .cnt n
    | .res => True) at hst
   rw [a1]
   cases ho : hl i with
   | box c =>
    rw [ho] at hst
    obtain ⟨s1, s2⟩ := hst
    refine ⟨?_, by rw [e1, s2, a2]⟩
    unfold isBox
    rw [b1]
    rcases s1 with ⟨c', hc'⟩ | ⟨c', hc'⟩
    ·exact .inl ⟨_, by rw [hc']; rfl⟩
    ·exact .inr ⟨_, by rw [hc']; rfl⟩
   | ro c =>
    rw [ho] at hst
    exact ⟨by rw [b1, hst.1]; rfl, by rw [e1, hst.2, a2]⟩
   | grow v c e sz =>
    rw [ho] at hst
    obtain ⟨v', s1, s2, s3⟩ := hst
    exact ⟨v', (by rw [b1]; cases hh : hl' i <;> rw [hh] at s1 <;> first | (cases s1; rfl) | cases s1), s2, fun e => by rw [e1, s3 e, a2]⟩
   | gro v c e sz =>
    rw [ho] at hst
    exact ⟨by rw [b1, hst.1]; rfl, by rw [e1, hst.2, a2]⟩
   | mp t m =>
    rw [ho] at hst
    exact ⟨(by rw [b1]; have s1 := hst.1; cases hh : hl' i <;> rw [hh] at s1 <;> first | (cases s1; rfl) | cases s1), by rw [e1, hst.2, a2]⟩
   | mpo t m =>
    rw [ho] at hst
    exact ⟨(by rw [b1]; have s1 := hst.1; cases hh : hl' i <;> rw [hh] at s1 <;> first | (cases s1; rfl) | cases s1), by rw [e1, hst.2, a2]⟩
   | mfz t m =>
    rw [ho] at hst
    exact ⟨(by rw [b1]; have s1 := hst.1; cases hh : hl' i <;> rw [hh] at s1 <;> first | (cases s1; rfl) | cases s1), by rw [e1, hst.2, a2]⟩
   | tok n e =>
    rw [ho] at hst
    obtain ⟨n', s1, s2, s3⟩ := hst
    exact ⟨n', by rw [b1, s1]; rfl, s2, fun e => by rw [e1, s3 e, a2]⟩
   | cnt n =>
    rw [ho] at hst
    obtain ⟨n', s1⟩ := hst
    exact ⟨n', by rw [b1, s1]; rfl⟩
   | res => trivial
  ·have e1 := hnot j hj
   have b1 := renW_out (h := h) (hl' := hl') hj
   cases ho : h j with
   | box c => exact ⟨.inl ⟨c, by rw [b1]; exact ho⟩, e1⟩
   | ro c => exact ⟨by rw [b1]; exact ho, e1⟩
   | grow v c e sz => exact ⟨v, by rw [b1, ho]; rfl, Nat.le_refl _, fun _ => e1⟩
   | gro v c e sz => exact ⟨by rw [b1]; exact ho, e1⟩
   | mp t m => exact ⟨by rw [b1, ho]; rfl, e1⟩
   | mpo t m => exact ⟨by rw [b1, ho]; rfl, e1⟩
   | mfz t m => exact ⟨by rw [b1, ho]; rfl, e1⟩
   | tok n e => exact ⟨n, by rw [b1]; exact ho, Nat.le_refl _, fun _ => e1⟩
   | cnt n => exact ⟨n, by rw [b1]; exact ho⟩
   | res => trivial
 refine ⟨φ', H.trans ?_, R'⟩
 refine ⟨H'.agree, H'.more, fun a u h1 h2 => ?_, fun j => ?_, fun j k lj lk e => ?_, fun j lj => ?_, ⟨H'.bel.os, H'.bel.tape, H'.bel.output, H'.bel.size, fun k hk he => H'.bel.block k hk fun ho => he (hown _ ho)⟩, hs, H'.glob⟩
 ·rcases H'.news a u h1 h2 with h3 | h3
  ·exact .inl h3
  ·exact .inr (hown _ h3)
 ·by_cases hj : j ∈ ids
  ·obtain ⟨i, hi⟩ := hmem j hj
   exact R'.objUp hi (H'.objs i)
  ·rw [renW_out hj]
   refine (H.objs j).step (fun _ => hnot j hj) hs H'.more (fun lj a ha => ?_) (fun lj => H'.bel.block _ (H.blk lj) (hapart j hj lj))
   cases hFa : F a with
   | some v => exact H'.more _ _ hFa
   | none =>
    cases hFb : F' a with
    | none => rfl
    | some v =>
     rcases H'.news _ _ hFb hFa with h3 | h3
     ·have := H.blk lj; exact absurd (show w.heap.size ≤ (φ j).1 from by rw [← ha]; exact h3) (by omega)
     ·rw [ha] at h3; exact absurd h3 (hapart j hj lj)
 ·have key : ∀ (i j k : Nat), ids[i]? = some j → k ∉ ids → (wr h (renW ids hl') j).live = true → (wr h (renW ids hl') k).live = true → (φ' j).1 = (φ' k).1 → False := by
   intro i j k hi hk lj lk e
   rw [renW_out hk] at lk
   rw [hin i j hi, hnot k hk] at e
   rw [R'.live hi] at lj
   rcases H'.high i lj with h3 | h3
   ·have := H.blk lk; rw [e] at h3; exact absurd (show w.heap.size ≤ (φ k).1 from h3) (by omega)
   ·rw [e] at h3; exact hapart k hk lk h3
  by_cases hj : j ∈ ids <;> by_cases hk : k ∈ ids
  ·obtain ⟨i, hi⟩ := hmem j hj
   obtain ⟨i', hi'⟩ := hmem k hk
   rw [R'.live hi] at lj; rw [R'.live hi'] at lk
   rw [hin i j hi, hin i' k hi'] at e
   have := H'.inj i i' lj lk e
   subst this
   rw [hi] at hi'; exact Option.some.inj hi'
  ·obtain ⟨i, hi⟩ := hmem j hj
   exact (key i j k hi hk lj lk e).elim
  ·obtain ⟨i, hi⟩ := hmem k hk
   exact (key i k j hi hj lk lj e.symm).elim
  ·rw [renW_out hj] at lj; rw [renW_out hk] at lk
   rw [hnot j hj, hnot k hk] at e
   exact H.inj j k lj lk e
 ·by_cases hj : j ∈ ids
  ·obtain ⟨i, hi⟩ := hmem j hj
   rw [R'.live hi] at lj
   rw [hin i j hi]
   rcases H'.high i lj with h3 | h3
   ·exact .inl h3
   ·exact .inr (hown _ h3)
  ·rw [renW_out hj] at lj
   rw [hnot j hj]
   exact .inr ⟨j, lj, rfl⟩

theorem RH.joinG (H : RH P C F φ h w) {G : Nat → Prop} (hG : ∀ b, G b → ¬ own φ h b) {ids : List Nat} (hn : ids.Nodup) (R : Ren ids φ h φl hl) (H' : RH P (locG w F φl hl G) F' φl' hl' w') (hout : ∀ i, ids.length ≤ i → hl' i = .res) :
  ∃ φ', RH P (locG w F φ h G) F' φ' (wr h (renW ids hl')) w' ∧ Ren ids φ' (wr h (renW ids hl')) φl' hl' ∧ ∀ j, j ∉ ids → φ' j = φ j := by
 let φ' : Nat → Nat × Nat := fun j => if j ∈ ids then φl' (ids.idxOf j) else φ j
 have hin : ∀ (i j : Nat), ids[i]? = some j → φ' j = φl' i := by
  intro i j hi
  have hm : j ∈ ids := List.mem_of_getElem? hi
  show (if j ∈ ids then φl' (ids.idxOf j) else φ j) = _
  rw [if_pos hm]
  have : ids[ids.idxOf j]? = some j := by rw [List.getElem?_eq_getElem (List.idxOf_lt_length_iff.2 hm)]; simp
  rw [nodup_at hn this hi]
 have hnot : ∀ j, j ∉ ids → φ' j = φ j := fun j hj => if_neg hj
 have R' : Ren ids φ' (wr h (renW ids hl')) φl' hl' := ⟨fun i j hi => ⟨renW_at hn hi, hin i j hi⟩, hout⟩
 have hmem : ∀ j, j ∈ ids → ∃ i, ids[i]? = some j := fun j hj => by
  obtain ⟨i, hi, e⟩ := List.getElem_of_mem hj
  exact ⟨i, by rw [List.getElem?_eq_getElem hi, e]⟩
 have hown : ∀ b, (own φl hl b ∨ G b) → (own φ h b ∨ G b) := by
  rintro b (⟨i, li, e⟩ | hg)
  ·have hi := at_lt (R.lt_of_live li)
   exact .inl ⟨_, by rw [R.live hi]; exact li, by rw [(R.at_ _ _ hi).2]; exact e⟩
  ·exact .inr hg
 have hapart : ∀ j, j ∉ ids → (h j).live = true → ¬ (own φl hl (φ j).1 ∨ G (φ j).1) := by
  rintro j hj lj hh
  rcases hh with hh | hg
  case inr => exact hG _ hg ⟨j, lj, rfl⟩
  obtain ⟨i, li, e⟩ := hh
  have hi := at_lt (R.lt_of_live li)
  have := H.inj _ j (by rw [R.live hi]; exact li) lj (by rw [(R.at_ _ _ hi).2]; exact e)
  exact hj (this ▸ List.mem_of_getElem? hi)
 have hs : HStep φ φ' h (wr h (renW ids hl')) := by
  intro j
  by_cases hj : j ∈ ids
  ·obtain ⟨i, hi⟩ := hmem j hj
   have hst := H'.step i
   obtain ⟨a1, a2⟩ := R.at_ i j hi
   have e1 := hin i j hi
   have b1 := renW_at (h := h) (hl' := hl') hn hi
   change (match hl i with
    | .box _ => isBox hl' i ∧ φl' i = φl i
    | .ro c => hl' i = .ro c ∧ φl' i = φl i
    | .grow v _ e sz => ∃ v', growInfo (hl' i) = some (v', e, sz) ∧ v ≤ v' ∧ (v' = v → φl' i = φl i)
    | .gro v c e sz => hl' i = .gro v c e sz ∧ φl' i = φl i
    | .mp t _ => mapInfo (hl' i) = some t ∧ φl' i = φl i
    | .mpo t _ => mapInfo (hl' i) = some t ∧ φl' i = φl i
    | .mfz t _ => mapInfo (hl' i) = some t ∧ φl' i = φl i
    | .tok n e => ∃ n', hl' i = .tok n' e ∧ n ≤ n' ∧ (n' = n → φl' i = φl i)
    | .cnt _ => ∃ n, hl' i = .cnt n
    | .res => True) at hst
   rw [a1]
   cases ho : hl i with
   | box c =>
    rw [ho] at hst
    obtain ⟨s1, s2⟩ := hst
    refine ⟨?_, by rw [e1, s2, a2]⟩
    unfold isBox
    rw [b1]
    rcases s1 with ⟨c', hc'⟩ | ⟨c', hc'⟩
    ·exact .inl ⟨_, by rw [hc']; rfl⟩
    ·exact .inr ⟨_, by rw [hc']; rfl⟩
   | ro c =>
    rw [ho] at hst
    exact ⟨by rw [b1, hst.1]; rfl, by rw [e1, hst.2, a2]⟩
   | grow v c e sz =>
    rw [ho] at hst
    obtain ⟨v', s1, s2, s3⟩ := hst
    exact ⟨v', (by rw [b1]; cases hh : hl' i <;> rw [hh] at s1 <;> first | (cases s1; rfl) | cases s1), s2, fun e => by rw [e1, s3 e, a2]⟩
   | gro v c e sz =>
    rw [ho] at hst
    exact ⟨by rw [b1, hst.1]; rfl, by rw [e1, hst.2, a2]⟩
   | mp t m =>
    rw [ho] at hst
    exact ⟨(by rw [b1]; have s1 := hst.1; cases hh : hl' i <;> rw [hh] at s1 <;> first | (cases s1; rfl) | cases s1), by rw [e1, hst.2, a2]⟩
   | mpo t m =>
    rw [ho] at hst
    exact ⟨(by rw [b1]; have s1 := hst.1; cases hh : hl' i <;> rw [hh] at s1 <;> first | (cases s1; rfl) | cases s1), by rw [e1, hst.2, a2]⟩
   | mfz t m =>
    rw [ho] at hst
    exact ⟨(by rw [b1]; have s1 := hst.1; cases hh : hl' i <;> rw [hh] at s1 <;> first | (cases s1; rfl) | cases s1), by rw [e1, hst.2, a2]⟩
   | tok n e =>
    rw [ho] at hst
    obtain ⟨n', s1, s2, s3⟩ := hst
    exact ⟨n', by rw [b1, s1]; rfl, s2, fun e => by rw [e1, s3 e, a2]⟩
   | cnt n =>
    rw [ho] at hst
    obtain ⟨n', s1⟩ := hst
    exact ⟨n', by rw [b1, s1]; rfl⟩
   | res => trivial
  ·have e1 := hnot j hj
   have b1 := renW_out (h := h) (hl' := hl') hj
   cases ho : h j with
   | box c => exact ⟨.inl ⟨c, by rw [b1]; exact ho⟩, e1⟩
   | ro c => exact ⟨by rw [b1]; exact ho, e1⟩
   | grow v c e sz => exact ⟨v, by rw [b1, ho]; rfl, Nat.le_refl _, fun _ => e1⟩
   | gro v c e sz => exact ⟨by rw [b1]; exact ho, e1⟩
   | mp t m => exact ⟨by rw [b1, ho]; rfl, e1⟩
   | mpo t m => exact ⟨by rw [b1, ho]; rfl, e1⟩
   | mfz t m => exact ⟨by rw [b1, ho]; rfl, e1⟩
   | tok n e => exact ⟨n, by rw [b1]; exact ho, Nat.le_refl _, fun _ => e1⟩
   | cnt n => exact ⟨n, by rw [b1]; exact ho⟩
   | res => trivial
 refine ⟨φ', ?_, R', hnot⟩
 refine ⟨H'.agree, H'.more, fun a u h1 h2 => ?_, fun j => ?_, fun j k lj lk e => ?_, fun j lj => ?_, ⟨H'.bel.os, H'.bel.tape, H'.bel.output, H'.bel.size, fun k hk he => H'.bel.block k hk fun ho => he (hown _ ho)⟩, hs, H'.glob⟩
 ·rcases H'.news a u h1 h2 with h3 | h3
  ·exact .inl h3
  ·exact .inr (hown _ h3)
 ·by_cases hj : j ∈ ids
  ·obtain ⟨i, hi⟩ := hmem j hj
   exact R'.objUp hi (H'.objs i)
  ·rw [renW_out hj]
   refine (H.objs j).step (fun _ => hnot j hj) hs H'.more (fun lj a ha => ?_) (fun lj => H'.bel.block _ (H.blk lj) (hapart j hj lj))
   cases hFa : F a with
   | some v => exact H'.more _ _ hFa
   | none =>
    cases hFb : F' a with
    | none => rfl
    | some v =>
     rcases H'.news _ _ hFb hFa with h3 | h3
     ·have := H.blk lj; exact absurd (show w.heap.size ≤ (φ j).1 from by rw [← ha]; exact h3) (by omega)
     ·rw [ha] at h3; exact absurd h3 (hapart j hj lj)
 ·have key : ∀ (i j k : Nat), ids[i]? = some j → k ∉ ids → (wr h (renW ids hl') j).live = true → (wr h (renW ids hl') k).live = true → (φ' j).1 = (φ' k).1 → False := by
   intro i j k hi hk lj lk e
   rw [renW_out hk] at lk
   rw [hin i j hi, hnot k hk] at e
   rw [R'.live hi] at lj
   rcases H'.high i lj with h3 | h3
   ·have := H.blk lk; rw [e] at h3; exact absurd (show w.heap.size ≤ (φ k).1 from h3) (by omega)
   ·rw [e] at h3; exact hapart k hk lk h3
  by_cases hj : j ∈ ids <;> by_cases hk : k ∈ ids
  ·obtain ⟨i, hi⟩ := hmem j hj
   obtain ⟨i', hi'⟩ := hmem k hk
   rw [R'.live hi] at lj; rw [R'.live hi'] at lk
   rw [hin i j hi, hin i' k hi'] at e
   have := H'.inj i i' lj lk e
   subst this
   rw [hi] at hi'; exact Option.some.inj hi'
  ·obtain ⟨i, hi⟩ := hmem j hj
   exact (key i j k hi hk lj lk e).elim
  ·obtain ⟨i, hi⟩ := hmem k hk
   exact (key i k j hi hj lk lj e.symm).elim
  ·rw [renW_out hj] at lj; rw [renW_out hk] at lk
   rw [hnot j hj, hnot k hk] at e
   exact H.inj j k lj lk e
 ·by_cases hj : j ∈ ids
  ·obtain ⟨i, hi⟩ := hmem j hj
   rw [R'.live hi] at lj
   rw [hin i j hi]
   rcases H'.high i lj with h3 | h3
   ·exact .inl h3
   ·exact .inr (hown _ h3)
  ·rw [renW_out hj] at lj
   rw [hnot j hj]
   exact .inr (.inl ⟨j, lj, rfl⟩)

end Go.Pm

/- Part QmK. -/
namespace Go.Pm
open Go Go.RowKit

variable {P : Program} {C : Cx} {F F' : Fz} {φ φ' φ'' : Nat → Nat × Nat} {h h' h'' : Hp} {w w' : World}

theorem RTm.at_ {ps : List PV} {us : Array Value} (hr : RTm F φ h ps us) (t : Nat) : RepP F φ h (ps.getD t .junk) (us.getD t undef) := by
 rw [List.getD_eq_getElem?_getD]
 cases hp : ps[t]? with
 | none => trivial
 | some p =>
  have ht : t < us.size := by rw [hr.1]; exact (List.getElem?_eq_some_iff.1 hp).1
  have hu : us[t]? = some us[t] := Array.getElem?_eq_getElem ht
  have e : us.getD t undef = us[t] := by simp [Array.getD, ht]
  rw [e]
  exact hr.2 t p _ hp hu

theorem constP_rep (v : Value) : RepP F φ h (constP v) v := by
 unfold constP
 split
 ·rename_i x hx; exact (ofVal_rep hx).1
 ·trivial

theorem globP_rep (hg : GlobOk F) (g : Nat) : RepP F φ h (globP g) (.pointer (some ⟨g, 0, none⟩)) := by
 unfold globP
 split
 ·rename_i cs hc; exact hg g cs hc
 ·trivial
theorem eval_rep {σ : PS} {a : Act} (hg : GlobOk F) (hr : RTm F φ σ.heap σ.tmps a.tmps) (x : Operand) : RepP F φ σ.heap (σ.eval x) (a.eval x) := by
 cases x with
 | tmp t => exact hr.at_ t
 | const v => exact constP_rep v
 | global g => exact globP_rep hg g
 | func f => exact RepT.fn f [] [] [] [] rfl (by simp) rfl (by simp)

theorem undef_rep : RepP F φ h pv_undef undef := RepT.tup [] [] rfl (by simp)

theorem RTm.put {ps : List PV} {us : Array Value} (hr : RTm F φ h ps us) (d : Nat) {v : PV} {u : Value} (hv : RepP F φ h v u) : RTm F φ h (ps.set d v) (us.setIfInBounds d u) := by
 refine ⟨by simp [hr.1], fun i p q hp hq => ?_⟩
 by_cases hi : i = d
 ·subst hi
  have hlt : i < ps.length := by have := (List.getElem?_eq_some_iff.1 hp).1; simpa using this
  rw [List.getElem?_set_self hlt] at hp; cases hp
  rw [Array.getElem?_setIfInBounds_self_of_lt (by rw [hr.1]; exact hlt)] at hq; cases hq
  exact hv
 ·rw [List.getElem?_set_ne (Ne.symm hi)] at hp
  rw [Array.getElem?_setIfInBounds_ne (Ne.symm hi)] at hq
  exact hr.2 i p q hp hq

theorem guard_sim {ops : Array Oper} {o : Oper} {σ : PS} {a : Act} {b : Bool} (hr : RTm F φ h σ.tmps a.tmps) (hg : guardO ops o σ = some b) : Region.wanted o (yielded ops a.tmps) = b := by
 unfold guardO at hg
 unfold Region.wanted
 split at hg
 ·rename_i hn; rw [hn]; cases hg; rfl
 ·rename_i j want hj
  rw [hj]
  simp only
  unfold yielded
  split at hg
  ·rename_i hd; rw [hd]; simp at hg ⊢; exact hg
  ·rename_i d hd
   rw [hd]
   simp only [Option.bind_some]
   split at hg
   ·rename_i ht
    have : a.tmps[d]? = none := by
     rw [Array.getElem?_eq_none_iff, hr.1]; exact List.getElem?_eq_none_iff.1 ht
    rw [this]; simp at hg ⊢; exact hg
   ·rename_i c ht
    have hlt : d < a.tmps.size := by rw [hr.1]; exact (List.getElem?_eq_some_iff.1 ht).1
    have hu : a.tmps[d]? = some a.tmps[d] := Array.getElem?_eq_getElem hlt
    have := RepT.bool_inv (hr.2 d _ _ ht hu)
    rw [hu, this]; simp only [Option.some.injEq] at hg
    rw [← hg]
    cases c <;> cases want <;> rfl
   ·rename_i c' c ht
    have hlt : d < a.tmps.size := by rw [hr.1]; exact (List.getElem?_eq_some_iff.1 ht).1
    have hu : a.tmps[d]? = some a.tmps[d] := Array.getElem?_eq_getElem hlt
    have hrep := hr.2 d _ _ ht hu
    simp only [Option.some.injEq] at hg
    cases c' with
    | true =>
     have := RepT.bool_inv (hrep.1 rfl)
     rw [hu, this, ← hg]
     cases c <;> cases want <;> rfl
    | false =>
     have := hrep.2 rfl
     rw [hu, this, ← hg]; rfl
   ·cases hg
   ·cases hg
   ·rename_i p hnb _ hnc hnj ht
    have hlt : d < a.tmps.size := by rw [hr.1]; exact (List.getElem?_eq_some_iff.1 ht).1
    have hu : a.tmps[d]? = some a.tmps[d] := Array.getElem?_eq_getElem hlt
    have hrep := hr.2 d _ _ ht hu
    rw [hu]
    generalize a.tmps[d] = u at hrep
    have hne : ∀ c, u ≠ .bool c := by
     rintro c rfl
     cases p with
     | t x => cases hrep with | bool => exact hnb _ rfl
     | ptr => cases hrep.2
     | own cs n =>
      rcases Nat.eq_zero_or_pos n with h0 | h0
      ·cases (hrep.1 h0).2
      ·cases hrep.2.1 h0
     | fnc => cases hrep.2
     | yld => cases hrep
     | mth => obtain ⟨_, _, e, _⟩ := hrep; cases e
     | cond b q => exact hnc b q rfl
     | gsl => obtain ⟨_, _, _, _, _, _, e, _⟩ := hrep; cases e
     | gptr => obtain ⟨_, _, _, _, _, _, e, _⟩ := hrep; cases e
     | mapr => obtain ⟨_, _, e⟩ := hrep; cases e
     | nil b => cases b <;> cases hrep
     | cons b => obtain ⟨_, _, e, _⟩ := hrep; cases b <;> cases e
     | junk => exact hnj rfl
    simp at hg
    cases u <;> first | exact absurd rfl (hne _) | (simp; exact hg)

theorem normA_rep {p : PV} {u : Value} (hr : RepP F φ h p u) : RepP F φ h (normA p) u := by
 unfold normA
 split
 ·rename_i x hx; exact PV.toT_rep hx hr
 ·exact hr
theorem RPs.cons {p : PV} {u : Value} {ps : List PV} {us : List Value} (a : RepP F φ h p u) (b : RPs F φ h ps us) : RPs F φ h (p :: ps) (u :: us) := by
 refine ⟨by simp [b.1], fun i q v h1 h2 => ?_⟩
 cases i with
 | zero => simp at h1 h2; subst h1; subst h2; exact a
 | succ i => simp at h1 h2; exact b.2 i q v h1 h2
theorem RPs.append {ps qs : List PV} {us vs : List Value} (a : RPs F φ h ps us) (b : RPs F φ h qs vs) : RPs F φ h (ps ++ qs) (us ++ vs) := by
 refine ⟨by simp [a.1, b.1], fun i q v h1 h2 => ?_⟩
 by_cases hi : i < ps.length
 ·rw [List.getElem?_append_left hi] at h1
  rw [List.getElem?_append_left (by rw [a.1]; exact hi)] at h2
  exact a.2 i q v h1 h2
 ·rw [List.getElem?_append_right (Nat.le_of_not_lt hi)] at h1
  rw [List.getElem?_append_right (by rw [a.1]; exact Nat.le_of_not_lt hi), a.1] at h2
  exact b.2 _ q v h1 h2
theorem RPs.of_t {xs : List TV} {us : List Value} (hl : us.length = xs.length) (hr : ∀ (i : Nat) (c : TV) (u : Value), xs[i]? = some c → us[i]? = some u → RepT F c u) : RPs F φ h (xs.map .t) us :=
 ⟨by simpa using hl, fun i p u hp hu => by obtain ⟨x, hx, rfl⟩ := getElem?_map_t hp; exact hr i x u hx hu⟩

theorem run_target {c : Call} {ρp : Operand → PV} {ρv : Operand → Value} (hρ : ∀ x, RepP F φ h (ρp x) (ρv x)) {f : FuncId} {as : List PV} (ht : targetO P c ρp = some (f, as)) {type : TypeId} (hf : FnOk P f) :
  ∃ us : List Value, RPs F φ h as us ∧ (do let d ← resolve ρv c type; invoke d.target d.args : Sem Next).run P w = .ok (.enter f us.toArray) w := by
 obtain ⟨fn, hfn, hbody, hname⟩ := hf
 have hcall : ∀ us : Array Value, (callFunc f us).run P w = .ok (.enter f us) w := by
  intro us
  simp only [callFunc, Sem.run_bind, run_program, Result.andThen_ok, hfn, hname, hbody, Bool.false_eq_true, if_false, Sem.run_pure]
 have hargs : ∀ (l : List Operand), RPs F φ h (l.map fun a => normA (ρp a)) (l.map ρv) := by
  intro l
  induction l with
  | nil => exact ⟨rfl, fun i p u hp => by simp at hp⟩
  | cons a l ih => exact RPs.cons (normA_rep (hρ a)) ih
 have hmap : (c.args.map ρv) = (c.args.toList.map ρv).toArray := by apply Array.ext'; simp
 unfold targetO at ht
 split at ht
 ·rename_i g hg
  split at ht
  ·rename_i f' pre caps hpg
   simp only [Option.some.injEq, Prod.mk.injEq] at ht; obtain ⟨rfl, rfl⟩ := ht
   have hr := hρ g
   rw [hpg] at hr
   have hr' : RepT F (.fn f' pre caps) (ρv g) := hr
   generalize hu : ρv g = u at hr'
   cases hr' with
   | fn _ _ _ vs us hlv hrv hl hrr =>
    refine ⟨vs ++ c.args.toList.map ρv ++ us, ((RPs.of_t hlv hrv).append (hargs _)).append (RPs.of_t hl hrr), ?_⟩
    simp only [Sem.run_bind, resolve, hg, hu, Deferred.ofValue, Sem.run_pure, Result.andThen_ok, invoke, hmap]
    have e : (vs.toArray ++ (c.args.toList.map ρv).toArray) ++ us.toArray = (vs ++ c.args.toList.map ρv ++ us).toArray := by apply Array.ext'; simp
    rw [e, hcall]
  ·rename_i f' ids hpg
   simp only [Option.some.injEq, Prod.mk.injEq] at ht; obtain ⟨rfl, rfl⟩ := ht
   have hr := hρ g
   rw [hpg] at hr
   obtain ⟨hb, hu⟩ := hr
   refine ⟨c.args.toList.map ρv ++ ids.map fun id => .pointer (some ⟨(φ id).1, 0, none⟩), (hargs _).append ⟨by simp, fun i p u hp hu => ?_⟩, ?_⟩
   ·simp only [List.getElem?_map, Option.map_eq_some_iff] at hp hu
    obtain ⟨a, ha, rfl⟩ := hp
    obtain ⟨b, hb', rfl⟩ := hu
    rw [ha] at hb'; cases hb'
    exact ⟨hb a (List.mem_of_getElem? ha), rfl⟩
   ·simp only [Sem.run_bind, resolve, hg, hu, Deferred.ofValue, Sem.run_pure, Result.andThen_ok, invoke, hmap]
    have e : (#[] ++ (c.args.toList.map ρv).toArray) ++ (ids.map fun id => Value.pointer (some ⟨(φ id).1, 0, none⟩)).toArray = (c.args.toList.map ρv ++ ids.map fun id => Value.pointer (some ⟨(φ id).1, 0, none⟩)).toArray := by apply Array.ext'; simp
    rw [e, hcall]
  ·cases ht
 ·rename_i r name hg
  split at ht
  ·rename_i t x hpr
   split at ht
   ·rename_i f' hm
    simp only [Option.some.injEq, Prod.mk.injEq] at ht; obtain ⟨rfl, rfl⟩ := ht
    have hr := hρ r
    rw [hpr] at hr
    have hr' : RepT F (.ifc t x) (ρv r) := hr
    generalize hu : ρv r = u at hr'
    cases hr' with
    | ifc _ _ u hx =>
     refine ⟨u :: c.args.toList.map ρv, RPs.cons hx (hargs _), ?_⟩
     unfold methodO at hm
     split at hm
     ·cases hm
     ·rename_i i hi
      split at hm
      ·cases hm
      ·rename_i m hfind
       have hfind' : Array.find? (fun x => x.name == name) i.methods = some m := hfind
       split at hm
       ·cases hm
       ·rename_i f2 d hnp hpath hfunc hund
        simp at hm; subst hm
        have hmeth : ∀ fuel, (method (fuel + 1) t u name).run P w = .ok (f2, u) w := by
         intro fuel
         simp only [method, Sem.run_bind, typeInfo, run_program, Result.andThen_ok, hi, Sem.run_pure, hfind', hpath, follow, hfunc, receiverAt, run_underlying' hund, Place.get]
        simp only [Sem.run_bind, resolve, hg, hu, Sem.run_pure, Result.andThen_ok, invoke, hmap]
        have e1 : (#[Value.iface t u] ++ (c.args.toList.map ρv).toArray)[0]? = some (Value.iface t u) := by simp
        have e2 : (#[Value.iface t u] ++ (c.args.toList.map ρv).toArray).extract 1 (#[Value.iface t u] ++ (c.args.toList.map ρv).toArray).size = (c.args.toList.map ρv).toArray := by
         apply Array.ext'; simp only [Array.toList_extract, Array.size_append]; simp; exact List.take_of_length_le (by simp)
        simp only [e1, e2, callMethod, Sem.run_bind, run_program, Result.andThen_ok]
        have hdep : 0 < Made.depth := by decide
        obtain ⟨k, hk⟩ : ∃ k, P.types.size + Made.depth = k + 1 := ⟨P.types.size + Made.depth - 1, by omega⟩
        rw [hk, hmeth]
        simp only [Result.andThen_ok]
        have e3 : #[u] ++ (c.args.toList.map ρv).toArray = (u :: c.args.toList.map ρv).toArray := by apply Array.ext'; simp
        rw [e3, hcall]
       ·cases hm
   ·cases ht
  ·cases ht
 ·cases ht

theorem seenBy_rep {o : Oper} {b : Bool} {ρp : Operand → PV} {ρv : Operand → Value} (hb : b = true) (hρ : ∀ x, RepP F φ h (ρp x) (ρv x)) (x : Operand) : RepP F φ h (seenBy o b ρp x) (ρv x) := by
 unfold seenBy
 split
 ·exact hρ x
 ·exact strip_rep hb (hρ x)
theorem condW_true {o : Oper} {v : PV} {u : Value} (hv : RepP F φ h v u) : RepP F φ h (condW o true v) u := by
 unfold condW
 split
 ·exact hv
 ·exact ⟨fun _ => hv, fun e => (by cases e)⟩


/-! ### A state and a frame -/
def Hid (C : Cx) (φ : Nat → Nat × Nat) (h : Hp) (G : Nat → Prop) (w : World) : Prop := ∀ b, G b → b < w.heap.size ∧ ¬ own φ h b ∧ (C.w0.heap.size ≤ b ∨ C.E b)
def Marks (C : Cx) (φ : Nat → Nat × Nat) (h : Hp) (G : Nat → Prop) (ds : List Deferred) (w : World) : Prop :=
 ds.Nodup ∧ ∀ d ∈ ds, ∃ D, d = { target := .collected D, args := #[] } ∧ C.w0.heap.size ≤ D ∧ w.heap[D]? = some (.deferred (some [])) ∧ ¬ own φ h D ∧ ¬ G D

def R (P : Program) (C : Cx) (J : Gh) (σ : PS) (a : Act) (w : World) : Prop :=
 ∃ F φ G, RH P C F φ σ.heap w ∧ RTm F φ σ.heap σ.tmps a.tmps ∧ Hid C φ σ.heap G w ∧ Marks C φ σ.heap G a.defers w ∧ J (cntOf σ.heap) F G w

theorem surr {J : Gh} {G : Nat → Prop} {ds : List Deferred} {i : Nat} (hst : Stable C.w0.heap.size C.E J) (H : RH P C F φ h w) (hid : Hid C φ h G w) (hm : Marks C φ h G ds w) (hJ : J i F G w) (H' : RH P (loc w F φ h) F' φ' h' w') :
  Hid C φ' h' G w' ∧ Marks C φ' h' G ds w' ∧ J i F' G w' := by
 have hown : ∀ b, own φ h b → C.w0.heap.size ≤ b ∨ C.E b := fun b ⟨id, hl, e⟩ => e ▸ H.high id hl
 have hnew : ∀ b, b < w.heap.size → ¬ own φ h b → ¬ own φ' h' b := by
  rintro b hb hn ⟨id, li, e⟩
  rcases H'.high id li with h3 | h3
  ·rw [e] at h3; exact absurd (show w.heap.size ≤ b from h3) (by omega)
  ·rw [e] at h3; exact hn h3
 have hsz : w.heap.size ≤ w'.heap.size := H'.bel.size
 refine ⟨fun b hb => ⟨Nat.lt_of_lt_of_le (hid b hb).1 hsz, hnew b (hid b hb).1 (hid b hb).2.1, (hid b hb).2.2⟩, ⟨hm.1, fun d hd => ?_⟩, ?_⟩
 ·obtain ⟨D, e, h1, h2, h3, h4⟩ := hm.2 d hd
  have hlt := lt_of_block h2
  exact ⟨D, e, h1, (H'.bel.block D hlt h3).trans h2, hnew D hlt h3, h4⟩
 ·refine hst i F G w F' w' hJ H'.more H'.agree (fun a u h1 h2 => ?_) H'.bel.os H'.bel.tape H'.bel.output hsz (fun b hb hg => H'.bel.block b hb fun ho => ?_)
  ·rcases H'.news a u h1 h2 with h3 | h3
   ·have h3' : w.heap.size ≤ a.block := h3
    refine ⟨.inl (Nat.le_trans H.bel.size h3'), fun hg => ?_⟩
    have := (hid _ hg).1; omega
   ·exact ⟨hown _ h3, fun hg => (hid _ hg).2.1 h3⟩
  ·rcases hg with hg | ⟨h1, h2⟩
   ·exact (hid b hg).2.1 ho
   ·rcases hown b ho with h3 | h3
    ·omega
    ·exact h2 h3

def Fr (l : Option Nat) : Fence := { Fence.wide with round := l }

theorem uponIn_gives {l : Option Nat} {n : Nat} {o : Oper} {a : Act} {K : Act → World → Prop} {Q : Exit → Act → World → Prop} {r : Result Next} {u : Value} (hg : Gives r u w') (hk : K (a.put o.dst u) w') : o.uponIn (Fr l) n P a K Q r := by
 rcases hg with rfl | ⟨rfl, rfl⟩
 ·exact hk
 ·exact hk

theorem cntOf_wr : ∀ (W : Wr) (h : Hp), (∀ x o, (x, o) ∈ W → (∀ n, h x ≠ .cnt n) ∧ ∀ n, o ≠ .cnt n) → cntOf (wr h W) = cntOf h
 | [], _, _ => rfl
 | p :: W, h, hw => by
  obtain ⟨h1, h2⟩ := hw p.1 p.2 List.mem_cons_self
  have e1 : cntOf (upo h p.1 p.2) = cntOf h := by
   unfold cntOf
   by_cases e : (0 : Nat) = p.1
   ·rw [e, upo_same]
    cases hp : p.2 <;> cases hh : h p.1 <;> first | rfl | exact absurd hp (h2 _) | exact absurd hh (h1 _)
   ·rw [upo_other _ _ e]
  show cntOf (wr (upo h p.1 p.2) W) = _
  rw [cntOf_wr W _ fun x o hx => ?_, e1]
  obtain ⟨h3, h4⟩ := hw x o (List.mem_cons_of_mem _ hx)
  refine ⟨fun n => ?_, h4⟩
  by_cases e : x = p.1
  ·subst e; rw [upo_same]; exact h2 n
  ·rw [upo_other _ _ e]; exact h3 n

end Go.Pm

/- Part QmL. -/
namespace Go.Pm
open Go Go.RowKit

variable {P : Program} {C : Cx} {F F' : Fz} {φ φ' φ'' : Nat → Nat × Nat} {h h' h'' : Hp} {w w' : World}

def WOk (h : Hp) (W : Wr) (f : Foot) : Prop := ∀ x o, (x, o) ∈ W → x ∈ f.1 ∧ f.2 = true ∧ (∀ n, h x ≠ .cnt n) ∧ ∀ n, o ≠ .cnt n
theorem WOk.nil (f : Foot) : WOk h [] f := fun x o hx => by cases hx
theorem WOk.one {x : Nat} {o : PO} {f : Foot} (h1 : x ∈ f.1) (h2 : f.2 = true) (h3 : ∀ n, h x ≠ .cnt n) (h4 : ∀ n, o ≠ .cnt n) : WOk h [(x, o)] f := fun y p hy => by
 simp at hy; obtain ⟨rfl, rfl⟩ := hy; exact ⟨h1, h2, h3, h4⟩

theorem srcG_congr {sz : Nat} {x : PV} {g : Hp} (hg : ∀ id ver sz' o n f, x = .gsl id ver sz' o n f → g id = h id) : srcG sz x g = srcG sz x h := by
 cases x <;> first | rfl | (rename_i id ver sz' o n f; simp only [srcG, hg id ver sz' o n f rfl])
theorem fresh_loc {mu : Bool} {cs : List PV} {n sz rid : Nat} {e : TypeId} {v : PV} {W : Wr} {f : Foot} (hx : freshO mu cs n e sz rid = some (v, W)) (h1 : rid ∈ f.1) (h2 : f.2 = true) (h3 : isRes (h rid) = true) : WOk h W f := by
 unfold freshO at hx
 split at hx
 ·cases hx; exact WOk.one h1 h2 (fun n => by rw [isRes_iff.1 h3]; simp) (by simp)
 ·simp only [Option.map_eq_some_iff] at hx
  obtain ⟨xs, _, he⟩ := hx
  simp only [Prod.mk.injEq] at he
  rw [← he.2]; exact WOk.one h1 h2 (fun n => by rw [isRes_iff.1 h3]; simp) (by simp)

theorem append_loc {mu : Bool} {t t' : TypeId} {s x v : PV} {rid : Nat} {W : Wr} (hv : appendG P mu t t' s x h rid = some (v, W)) :
  WOk h W (sfoot s x rid, true) ∧ ∀ g : Hp, (∀ y ∈ sfoot s x rid, g y = h y) → appendG P mu t t' s x g rid = some (v, W) := by
 have hsrc : ∀ (g : Hp), (∀ y ∈ sfoot s x rid, g y = h y) → ∀ sz, srcG sz x g = srcG sz x h := fun g hg sz => srcG_congr fun id ver sz' o n f e => hg id (by subst e; simp [sfoot])
 unfold appendG at hv ⊢
 split at hv
 ·rename_i htt
  simp only [htt, if_true]
  split at hv
  ·cases hv
  ·rename_i e he
   split at hv
   ·cases hv
   ·rename_i sz by_ hsm
    split at hv
    ·cases hv
    ·rename_i ds m hs0
     split at hv
     ·split at hv
      ·rename_i hm; cases hv
       exact ⟨WOk.nil _, fun g hg => by simp [htt ▸ he, hsm, hsrc g hg, hs0, hm]⟩
      ·rename_i hm
       split at hv
       ·rename_i hc
        refine ⟨fresh_loc hv (by simp [sfoot]) rfl hc.2, fun g hg => ?_⟩
        have := hg rid (by simp [sfoot])
        simp [htt ▸ he, hsm, hsrc g hg, hs0, hm, this, hc, hv]
       ·cases hv
     ·rename_i cs n
      split at hv
      ·rename_i hlen
       split at hv
       ·rename_i hm; cases hv
        exact ⟨WOk.nil _, fun g hg => by simp [htt ▸ he, hsm, hsrc g hg, hs0, hm, hlen]⟩
       ·rename_i hm
        split at hv
        ·rename_i hc
         refine ⟨fresh_loc hv (by simp [sfoot]) rfl hc.2, fun g hg => ?_⟩
         have := hg rid (by simp [sfoot])
         simp [htt ▸ he, hsm, hsrc g hg, hs0, hm, this, hc, hlen, hv]
        ·cases hv
      ·cases hv
     ·rename_i id ver sz' o n
      split at hv
      ·rename_i cells hgc
       split at hv
       ·rename_i hlen
        split at hv
        ·rename_i hm; cases hv
         refine ⟨WOk.nil _, fun g hg => ?_⟩
         have := hg id (by simp [sfoot])
         simp [htt ▸ he, hsm, hsrc g hg, hs0, hm, hlen, this, hgc]
        ·rename_i hm
         split at hv
         ·rename_i hc
          refine ⟨fresh_loc hv (by simp [sfoot]) rfl hc.2, fun g hg => ?_⟩
          have := hg rid (by simp [sfoot])
          have h2 := hg id (by simp [sfoot])
          simp only [htt ▸ he, hsm, hsrc g hg, hs0, hm, this, h2, hgc, hc, hlen, hv, if_true, if_false, and_self]
         ·cases hv
       ·cases hv
      ·cases hv
     ·rename_i id ver sz' n
      split at hv
      ·rename_i cells hgc
       split at hv
       ·rename_i hlen
        split at hv
        ·rename_i hm; cases hv
         refine ⟨WOk.nil _, fun g hg => ?_⟩
         have := hg id (by simp [sfoot])
         simp [htt ▸ he, hsm, hsrc g hg, hs0, hm, hlen, this, hgc]
        ·rename_i hm
         split at hv
         ·rename_i hc
          cases hv
          refine ⟨WOk.one (by simp [sfoot]) rfl (fun n => by rw [growIs_eq hgc]; simp) (by simp), fun g hg => ?_⟩
          have h2 := hg id (by simp [sfoot])
          simp only [htt ▸ he, hsm, hsrc g hg, hs0, hm, h2, hgc, hc, hlen, if_true, if_false, and_self]
         ·cases hv
       ·cases hv
      ·cases hv
     ·rename_i cs n id
      split at hv
      ·rename_i ds' hds
       split at hv
       ·rename_i hlen
        split at hv
        ·rename_i hm; cases hv
         refine ⟨WOk.nil _, fun g hg => ?_⟩
         have := hg id (by simp [sfoot])
         simp [htt ▸ he, hsm, hsrc g hg, hs0, hm, hlen, this, hds]
        ·rename_i hm
         split at hv
         ·rename_i hc; cases hv
          refine ⟨WOk.one (by simp [sfoot]) rfl (fun n => by rw [tokIs_eq hlen.2]; simp) (by simp), fun g hg => ?_⟩
          have a1 := hg id (by simp [sfoot])
          simp [htt ▸ he, hsm, hsrc g hg, hs0, hm, a1, hc, hlen, hds]
         ·cases hv
       ·cases hv
      ·cases hv
     ·cases hv
 ·cases hv

theorem update_loc {t : TypeId} {m k x v : PV} {W : Wr} (hv : updateO P t m k x h = some (v, W)) :
  WOk h W (mfoot m, true) ∧ ∀ g : Hp, (∀ y ∈ mfoot m, g y = h y) → updateO P t m k x g = some (v, W) := by
 unfold updateO at hv
 split at hv
 ·rename_i id k' x' hk hx
  split at hv
  ·rename_i t' f hid
   split at hv
   ·rename_i hc
    cases hv
    refine ⟨WOk.one (by simp [mfoot]) rfl (fun n => by rw [hid]; simp) (by simp), fun g hg => ?_⟩
    have := hg id (by simp [mfoot])
    unfold updateO
    simp only [hk, hx, this, hid, hc, and_self, if_true]
   ·cases hv
  ·cases hv
 ·cases hv

def NoW (x : Option (PV × Wr)) : Prop := ∀ v W, x = some (v, W) → W = []
theorem nw_none : NoW none := fun v W h => by cases h
theorem nw_some (p : PV) : NoW (some (p, [])) := fun v W h => by simp at h; exact h.2
theorem nw_map {α : Type} (f : α → PV) (x : Option α) : NoW (x.map fun a => (f a, [])) := fun v W h => by
 cases x with
 | none => cases h
 | some a => simp at h; exact h.2
theorem nw_bind {α : Type} {x : Option α} {g : α → Option (PV × Wr)} (h : ∀ a, NoW (g a)) : NoW (x.bind g) := fun v W e => by
 cases x with
 | none => cases e
 | some a => exact h a v W e
theorem pop_loc {op : Op} {ρ : Operand → PV} {rid : Nat} {v : PV} {W : Wr} (hp : pop P op ρ h rid = some (v, W)) :
  WOk h W (footO op ρ rid) ∧ ∀ g : Hp, (∀ x ∈ (footO op ρ rid).1, g x = h x) → pop P op ρ g rid = some (v, W) := by
 have quiet : (∀ g : Hp, pop P op ρ g rid = pop P op ρ h rid) → (∀ v W, pop P op ρ h rid = some (v, W) → W = []) →
   WOk h W (footO op ρ rid) ∧ ∀ g : Hp, (∀ x ∈ (footO op ρ rid).1, g x = h x) → pop P op ρ g rid = some (v, W) := by
  intro hq hw
  have := hw v W hp; subst this
  exact ⟨WOk.nil _, fun g _ => by rw [hq g, hp]⟩
 cases op with
 | alloc e =>
  simp only [pop] at hp
  cases hz : zeroL P e with
  | none => rw [hz] at hp; simp at hp
  | some z =>
   rw [hz] at hp; simp only [Option.bind_some] at hp
   split at hp
   ·rename_i hres
    simp at hp; obtain ⟨rfl, rfl⟩ := hp
    refine ⟨WOk.one (by simp [footO]) rfl (fun n => by rw [isRes_iff.1 hres]; simp) (by simp), fun g hg => ?_⟩
    have := hg rid (by simp [footO])
    simp [pop, hz, this, hres]
   ·cases hp
 | box e x =>
  simp only [pop] at hp
  cases hz : pcells (ρ x) with
  | none => rw [hz] at hp; simp at hp
  | some z =>
   rw [hz] at hp; simp only [Option.bind_some] at hp
   split at hp
   ·rename_i hres
    simp at hp; obtain ⟨rfl, rfl⟩ := hp
    refine ⟨WOk.one (by simp [footO]) rfl (fun n => by rw [isRes_iff.1 hres]; simp) (by simp), fun g hg => ?_⟩
    have := hg rid (by simp [footO])
    simp [pop, hz, this, hres]
   ·cases hp
 | makeSlice t l c =>
  simp only [pop] at hp
  split at hp
  ·rename_i kl l' kc c' hl hc
   split at hp
   ·rename_i e he
    split at hp
    ·rename_i sz by_ z hsm hz
     split at hp
     ·rename_i hcond
      simp only [Option.some.injEq, Prod.mk.injEq] at hp; obtain ⟨rfl, rfl⟩ := hp
      refine ⟨WOk.one (by simp [footO]) rfl (fun n => by rw [isRes_iff.1 hcond.2.2.2.1]; simp) (by simp), fun g hg => ?_⟩
      have := hg rid (by simp [footO])
      simp only [pop, hl, hc, he, hsm, hz, this]
      rw [if_pos hcond]
     ·cases hp
    ·cases hp
   ·cases hp
  ·cases hp
 | makeMap t r =>
  cases r with
  | some r => simp [pop] at hp
  | none =>
   simp only [pop] at hp
   split at hp
   ·rename_i km hm
    split at hp
    ·rename_i hres
     simp only [Option.some.injEq, Prod.mk.injEq] at hp; obtain ⟨rfl, rfl⟩ := hp
     refine ⟨WOk.one (by simp [footO]) rfl (fun n => by rw [isRes_iff.1 hres]; simp) (by simp), fun g hg => ?_⟩
     have := hg rid (by simp [footO])
     simp only [pop, hm, this]
     rw [if_pos hres]
    ·cases hp
   ·cases hp
 | mapUpdate t m k x => exact update_loc hp
 | insert t m k x => exact update_loc hp
 | lookup t m k ok =>
  have hw : W = [] := by
   simp only [pop] at hp
   split at hp
   ·split at hp
    ·split at hp
     ·simp only [Option.some.injEq, Prod.mk.injEq] at hp; exact hp.2.symm
     ·cases hp
    ·cases hp
   ·split at hp
    ·split at hp
     ·simp only [Option.some.injEq, Prod.mk.injEq] at hp; exact hp.2.symm
     ·cases hp
    ·cases hp
   ·cases hp
  subst hw
  refine ⟨WOk.nil _, fun g hg => ?_⟩
  rw [← hp]
  cases hm : ρ m with
  | mapr id =>
   have := hg id (by simp [footO, hm, mfoot])
   simp only [pop, hm]
   generalize (ρ k).toT = a
   generalize mapO P t = b
   cases a <;> cases b <;> first | rfl | simp only [this]
  | t x =>
   simp only [pop, hm]
   generalize (ρ k).toT = a
   generalize mapO P t = b
   cases x <;> cases a <;> cases b <;> rfl
  | _ => simp only [pop, hm]
 | load t a =>
  simp only [pop] at hp ⊢
  cases ha : ρ a with
  | gptr id ver off =>
   rw [ha] at hp
   have hf : (footO (.load t a) ρ rid) = ([id], false) := by simp [footO, ha]
   rw [hf]
   refine ⟨?_, fun g hg => ?_⟩
   ·simp only [Option.bind_eq_some_iff, Option.map_eq_some_iff] at hp; obtain ⟨_, _, y, _, he⟩ := hp; simp at he; rw [he.2]; exact WOk.nil _
   ·have := hg id (by simp)
    simp only [this]; exact hp
  | ptr id off =>
   rw [ha] at hp
   have hf : (footO (.load t a) ρ rid) = ([id], false) := by simp [footO, ha]
   rw [hf]
   refine ⟨?_, fun g hg => ?_⟩
   ·simp only at hp
    split at hp
    ·simp only [Option.map_eq_some_iff] at hp; obtain ⟨y, _, he⟩ := hp; simp at he; rw [he.2]; exact WOk.nil _
    ·simp only [Option.map_eq_some_iff] at hp; obtain ⟨y, _, he⟩ := hp; simp at he; rw [he.2]; exact WOk.nil _
    ·cases hp
   ·have := hg id (by simp)
    simp only [this]; exact hp
  | t x =>
   rw [ha] at hp
   have hf : (footO (.load t a) ρ rid) = ([], false) := by simp [footO, ha]
   rw [hf]
   refine ⟨?_, fun g hg => by cases x <;> exact hp⟩
   cases x <;> simp only [Option.map_eq_some_iff, reduceCtorEq] at hp
   obtain ⟨y, _, he⟩ := hp; simp at he; rw [he.2]; exact WOk.nil _
  | _ => rw [ha] at hp; cases hp
 | store t a x =>
  simp only [pop] at hp
  cases ha : ρ a with
  | gptr id ver off =>
   rw [ha] at hp
   cases hb : h id with
   | grow v' cells e sz =>
    simp only [hb] at hp
    split at hp
    ·rename_i hv
     simp only [Option.map_eq_some_iff] at hp
     obtain ⟨y, hy, he⟩ := hp
     simp at he; obtain ⟨rfl, rfl⟩ := he
     refine ⟨WOk.one (by simp [footO, ha]) (by simp [footO, ha]) (fun n => by rw [hb]; simp) (by simp), fun g hg => ?_⟩
     have := hg id (by simp [footO, ha])
     simp [pop, ha, this, hb, hy, hv]
    ·cases hp
   | _ => simp [hb] at hp
  | ptr id off =>
   rw [ha] at hp
   cases hb : h id with
   | box cells =>
    simp only [hb, Option.map_eq_some_iff] at hp
    obtain ⟨y, hy, he⟩ := hp
    simp at he; obtain ⟨rfl, rfl⟩ := he
    refine ⟨WOk.one (by simp [footO, ha]) (by simp [footO, ha]) (fun n => by rw [hb]; simp) (by simp), fun g hg => ?_⟩
    have := hg id (by simp [footO, ha])
    simp [pop, ha, this, hb, hy]
   | _ => simp [hb] at hp
  | _ => rw [ha] at hp; cases hp
 | call c =>
  obtain ⟨callee, args, ts⟩ := c
  cases callee with
  | builtin b =>
   by_cases hb : b = .append
   ·subst hb
    simp only [pop, popB] at hp
    split at hp
    ·rename_i heq _ _; cases heq
    ·rename_i heq; cases heq
    ·rename_i heq; cases heq
    ·rename_i t t' s x _ hts hargs
     obtain ⟨e2, e3⟩ := append_loc hp
     have hf : (footO (.call { callee := .builtin .append, args := args, argTypes := ts }) ρ rid) = (sfoot s x rid, true) := by
      simp only [footO, hargs]
     rw [hf]
     refine ⟨e2, fun g hg => ?_⟩
     simp only [pop, popB, hts, hargs]
     exact e3 g hg
    ·cases hp
   ·refine quiet (fun g => ?_) (fun v W hh => ?_)
    ·simp only [pop, popB]
     split
     ·rfl
     ·rfl
     ·rfl
     ·exact absurd rfl hb
     ·rfl
    ·revert v W hh
     show NoW _
     simp only [pop, popB]
     split
     ·repeat' (first | exact nw_none | exact nw_some _ | exact nw_map _ _ | (refine nw_bind fun _ => ?_) | split)
     ·repeat' (first | exact nw_none | exact nw_some _ | exact nw_map _ _ | (refine nw_bind fun _ => ?_) | split)
     ·repeat' (first | exact nw_none | exact nw_some _ | exact nw_map _ _ | (refine nw_bind fun _ => ?_) | split)
     ·exact absurd rfl hb
     ·exact nw_none
  | value g => simp [pop] at hp
  | invoke r n => simp [pop] at hp
 | move x => exact quiet (fun g => rfl) (by show NoW _; simp only [pop]; (repeat' (first | exact nw_none | exact nw_some _ | exact nw_map _ _ | (refine nw_bind fun _ => ?_) | split)))
 | assign x => exact quiet (fun g => rfl) (by show NoW _; simp only [pop]; (repeat' (first | exact nw_none | exact nw_some _ | exact nw_map _ _ | (refine nw_bind fun _ => ?_) | split)))
 | pick c a b => exact quiet (fun g => rfl) (by show NoW _; simp only [pop]; (repeat' (first | exact nw_none | exact nw_some _ | exact nw_map _ _ | (refine nw_bind fun _ => ?_) | split)))
 | build t ps => exact quiet (fun g => rfl) (by show NoW _; simp only [pop]; (repeat' (first | exact nw_none | exact nw_some _ | exact nw_map _ _ | (refine nw_bind fun _ => ?_) | split)))
 | buildSlice t n ps => exact quiet (fun g => rfl) (by show NoW _; simp only [pop]; (repeat' (first | exact nw_none | exact nw_some _ | exact nw_map _ _ | (refine nw_bind fun _ => ?_) | split)))
 | nilCheck x => exact quiet (fun g => rfl) (by show NoW _; simp only [pop]; (repeat' (first | exact nw_none | exact nw_some _ | exact nw_map _ _ | (refine nw_bind fun _ => ?_) | split)))
 | binOp op xt x y yt => exact quiet (fun g => rfl) (by show NoW _; simp only [pop]; (repeat' (first | exact nw_none | exact nw_some _ | exact nw_map _ _ | (refine nw_bind fun _ => ?_) | split)))
 | unOp op xt x => exact quiet (fun g => rfl) (by show NoW _; simp only [pop]; (repeat' (first | exact nw_none | exact nw_some _ | exact nw_map _ _ | (refine nw_bind fun _ => ?_) | split)))
 | convert src dst x => exact quiet (fun g => rfl) (by show NoW _; simp only [pop]; (repeat' (first | exact nw_none | exact nw_some _ | exact nw_map _ _ | (refine nw_bind fun _ => ?_) | split)))
 | makeInterface t x => exact quiet (fun g => rfl) (by show NoW _; simp only [pop]; (repeat' (first | exact nw_none | exact nw_some _ | exact nw_map _ _ | (refine nw_bind fun _ => ?_) | split)))
 | fieldAddr s x f => exact quiet (fun g => rfl) (by show NoW _; simp only [pop]; (repeat' (first | exact nw_none | exact nw_some _ | exact nw_map _ _ | (refine nw_bind fun _ => ?_) | split)))
 | field s x f => exact quiet (fun g => rfl) (by show NoW _; simp only [pop]; (repeat' (first | exact nw_none | exact nw_some _ | exact nw_map _ _ | (refine nw_bind fun _ => ?_) | split)))
 | indexAddr t x i => exact quiet (fun g => rfl) (by show NoW _; simp only [pop]; (repeat' (first | exact nw_none | exact nw_some _ | exact nw_map _ _ | (refine nw_bind fun _ => ?_) | split)))
 | index t x i => exact quiet (fun g => rfl) (by show NoW _; simp only [pop]; (repeat' (first | exact nw_none | exact nw_some _ | exact nw_map _ _ | (refine nw_bind fun _ => ?_) | split)))
 | slice t x lo hi mx => exact quiet (fun g => rfl) (by show NoW _; simp only [pop]; (repeat' (first | exact nw_none | exact nw_some _ | exact nw_map _ _ | (refine nw_bind fun _ => ?_) | split)))
 | extract x i => exact quiet (fun g => rfl) (by show NoW _; simp only [pop]; (repeat' (first | exact nw_none | exact nw_some _ | exact nw_map _ _ | (refine nw_bind fun _ => ?_) | split)))
 | makeFunc fn fi caps =>
  refine quiet (fun g => by cases fn <;> rfl) ?_
  show NoW _
  cases fn <;> simp only [pop] <;> (repeat' (first | exact nw_none | exact nw_some _ | exact nw_map _ _ | (refine nw_bind fun _ => ?_) | split))
 | _ => simp [pop] at hp

theorem allO_congr {α β : Type} {f g : α → Option β} {l : List α} (h : ∀ x ∈ l, f x = g x) : allO (l.map f) = allO (l.map g) := by rw [List.map_congr_left h]

theorem popF_loc {op : Op} {ρ : Operand → PV} {v : PV} {W : Wr} {ids : List Nat} (hp : popF op ρ h = some (v, W, ids)) :
  WOk h W (ids, true) ∧ ∀ g : Hp, (∀ x ∈ ids, g x = h x) → popF op ρ g = some (v, W, ids) := by
 cases op with
 | makeFunc fn first caps =>
  cases fn with
  | func f =>
   simp only [popF] at hp ⊢
   split at hp
   ·cases hp
   rename_i hf
   split at hp
   ·rename_i is his
    simp only [Option.map_eq_some_iff] at hp
    obtain ⟨cs, hcs, he⟩ := hp
    simp at he; obtain ⟨rfl, rfl, rfl⟩ := he
    refine ⟨fun x o hx => ?_, fun g hg => ?_⟩
    ·obtain ⟨p, hp, e⟩ := List.mem_map.1 hx
     simp at e; obtain ⟨rfl, rfl⟩ := e
     obtain ⟨h1, h2⟩ := List.of_mem_zip hp
     refine ⟨h1, rfl, fun n hn => ?_, by simp⟩
     obtain ⟨i, hi, e⟩ := List.getElem_of_mem h1
     obtain ⟨b, _, hb⟩ := allO_at hcs (List.getElem?_eq_getElem hi)
     rw [e] at hb; unfold frozenO at hb; rw [hn] at hb; cases hb
    ·have : allO (is.map (frozenO g)) = allO (is.map (frozenO h)) := allO_congr fun x hx => by unfold frozenO; rw [hg x hx]
     simp [hf, his, this, hcs]
   ·cases hp
  | _ => simp [popF] at hp
 | _ => simp [popF] at hp

theorem pop_congr {op : Op} {ρ ρ' : Operand → PV} {h : Hp} {rid : Nat} (hρ : ∀ x ∈ op.operands, ρ x = ρ' x) : pop P op ρ h rid = pop P op ρ' h rid := by
 cases op with
 | build t ps =>
  have h1 : ∀ p ∈ ps.toList, ρ p.2 = ρ' p.2 := fun p hp => hρ p.2 (by simp only [Op.operands]; exact List.mem_toArray.2 (List.mem_map.2 ⟨p, hp, rfl⟩))
  have h2 : partsO ρ ps = partsO ρ' ps := by
   unfold partsO; exact allO_congr fun p hp => by rw [h1 p hp]
  have h3 : partsP ρ ps = partsP ρ' ps := by
   unfold partsP; exact List.map_congr_left fun p hp => by rw [h1 p hp]
  simp only [pop, h2, h3]
 | buildSlice t n ps =>
  have : partsO ρ ps = partsO ρ' ps := by
   unfold partsO; exact allO_congr fun p hp => by rw [hρ p.2 (by simp only [Op.operands]; exact List.mem_toArray.2 (List.mem_map.2 ⟨p, hp, rfl⟩))]
  simp only [pop, this]
 | makeFunc fn fi caps =>
  have hc : ∀ c ∈ caps.toList, ρ c = ρ' c := fun c hc => hρ c (by simp [Op.operands]; exact .inr (by simpa using hc))
  have hf : ∀ c ∈ fi.toList, ρ c = ρ' c := fun c hc => hρ c (by simp [Op.operands]; exact .inl (by simpa using hc))
  have e := allO_congr (f := fun c => capId (ρ c)) (g := fun c => capId (ρ' c)) (fun c h => by rw [hc c h])
  have e2 := allO_congr (f := fun c => (ρ c).toT) (g := fun c => (ρ' c).toT) (fun c h => by rw [hf c h])
  cases fn with
  | method name =>
   simp only [pop]
   cases hfi : fi.toList with
   | nil => rfl
   | cons a l => simp only [hf a (by rw [hfi]; exact List.mem_cons_self)]
  | _ => simp only [pop, e, e2]
 | slice t x lo hi mx =>
  have e : ∀ b : Option Operand, (∀ y, b = some y → ρ y = ρ' y) → b.map ρ = b.map ρ' := fun b hb => by cases b with | none => rfl | some y => simp [hb y rfl]
  have e0 := hρ x (by simp [Op.operands])
  have e1 := e lo fun y hy => hρ y (by subst hy; simp [Op.operands])
  have e2 := e hi fun y hy => hρ y (by subst hy; simp [Op.operands])
  have e3 := e mx fun y hy => hρ y (by subst hy; simp [Op.operands])
  simp only [pop, e0, e1, e2, e3]
 | makeMap t r => cases r <;> rfl
 | call c =>
  obtain ⟨callee, args, ts⟩ := c
  cases callee with
  | builtin b =>
   have e : args.toList.map ρ = args.toList.map ρ' := List.map_congr_left fun x hx => hρ x (by simp [Op.operands, Call.operands]; simpa using hx)
   simp only [pop, e]
  | value g => rfl
  | invoke r n => rfl
 | _ => simp only [Op.operands, List.mem_toArray, List.mem_cons, List.not_mem_nil, or_false, forall_eq_or_imp, forall_eq] at hρ <;> first | rfl | simp only [pop, hρ]
theorem popF_congr {op : Op} {ρ ρ' : Operand → PV} {h : Hp} (hρ : ∀ x ∈ op.operands, ρ x = ρ' x) : popF op ρ h = popF op ρ' h := by
 cases op with
 | makeFunc fn fi caps =>
  have hc : ∀ c ∈ caps.toList, ρ c = ρ' c := fun c hc => hρ c (by simp [Op.operands]; exact .inr (by simpa using hc))
  have e := allO_congr (f := fun c => capId (ρ c)) (g := fun c => capId (ρ' c)) (fun c h => by rw [hc c h])
  cases fn <;> simp only [popF, e]
 | _ => rfl
theorem popM_congr {op : Op} {ρ ρ' : Operand → PV} {h : Hp} {rid : Nat} (hρ : ∀ x ∈ op.operands, ρ x = ρ' x) : popM P op ρ h rid = popM P op ρ' h rid := by
 cases op with
 | buildSlice t n ps =>
  have h1 : ∀ p ∈ ps.toList, ρ p.2 = ρ' p.2 := fun p hp => hρ p.2 (by simp only [Op.operands]; exact List.mem_toArray.2 (List.mem_map.2 ⟨p, hp, rfl⟩))
  have h2 : partsO ρ ps = partsO ρ' ps := by
   unfold partsO; exact allO_congr fun p hp => by rw [h1 p hp]
  have h3 : partsP ρ ps = partsP ρ' ps := by
   unfold partsP; exact List.map_congr_left fun p hp => by rw [h1 p hp]
  simp only [popM, h2, h3]
 | makeMap t r => cases r <;> rfl
 | lookup t m k ok => cases ok <;> simp only [popM, hρ m (by simp [Op.operands]), hρ k (by simp [Op.operands])]
 | mapUpdate t m k x => simp only [popM, hρ m (by simp [Op.operands]), hρ k (by simp [Op.operands]), hρ x (by simp [Op.operands])]
 | call c =>
  obtain ⟨callee, args, ts⟩ := c
  cases callee with
  | builtin b =>
   have e : args.toList.map ρ = args.toList.map ρ' := List.map_congr_left fun x hx => hρ x (by simp [Op.operands, Call.operands]; simpa using hx)
   cases b <;> simp only [popM, e]
  | value g => rfl
  | invoke r n => rfl
 | _ => rfl
theorem popM_loc {op : Op} {ρ : Operand → PV} {rid : Nat} {v : PV} {W : Wr} (hp : popM P op ρ h rid = some (v, W)) :
  WOk h W (footO op ρ rid) ∧ ∀ g : Hp, (∀ x ∈ (footO op ρ rid).1, g x = h x) → popM P op ρ g rid = some (v, W) := by
 unfold popM at hp
 split at hp
 ·rename_i t n parts
  simp only [Option.bind_eq_some_iff] at hp
  obtain ⟨cs, hcs, hp⟩ := hp
  split at hp
  ·rename_i e he
   split at hp
   ·rename_i sz by_ hsm
    split at hp
    ·rename_i hres
     simp only [Option.some.injEq, Prod.mk.injEq] at hp; obtain ⟨rfl, rfl⟩ := hp
     refine ⟨WOk.one (by simp [footO]) rfl (fun n => by rw [isRes_iff.1 hres]; simp) (by simp), fun g hg => ?_⟩
     have := hg rid (by simp [footO])
     simp [popM, hcs, he, hsm, this, hres]
    ·cases hp
   ·cases hp
  ·cases hp
 ·rename_i t
  split at hp
  ·rename_i hc
   simp only [Option.some.injEq, Prod.mk.injEq] at hp; obtain ⟨rfl, rfl⟩ := hp
   refine ⟨WOk.one (by simp [footO]) rfl (fun n => by rw [isRes_iff.1 hc.2]; simp) (by simp), fun g hg => ?_⟩
   have := hg rid (by simp [footO])
   simp only [popM, this]
   rw [if_pos hc]
  ·cases hp
 ·rename_i t m k
  split at hp
  ·rename_i id i hm hk
   have hw : W = [] := by
    unfold lookM at hp
    split at hp
    ·split at hp
     ·simp only [Option.map_eq_some_iff, Prod.mk.injEq] at hp; obtain ⟨_, _, _, rfl⟩ := hp; rfl
     ·cases hp
    ·cases hp
   subst hw
   refine ⟨WOk.nil _, fun g hg => ?_⟩
   have := hg id (by simp [footO, hm, mfoot])
   simp only [popM, hm, hk, this]; exact hp
  ·rename_i t' vs i hm hk
   split at hp
   ·rename_i hc
    simp only [Option.map_eq_some_iff, Prod.mk.injEq] at hp
    obtain ⟨x, hx, rfl, rfl⟩ := hp
    refine ⟨WOk.nil _, fun g hg => ?_⟩
    simp only [popM, hm, hk]
    rw [if_pos hc, hx]; rfl
   ·cases hp
  ·cases hp
 ·rename_i t m k x
  split at hp
  ·rename_i id i hm hk
   have hcnt : ∀ n, h id ≠ .cnt n := fun n e => by rw [e] at hp; cases hp
   have hW : ∃ o, W = [(id, o)] ∧ ∀ n, o ≠ .cnt n := by
    unfold updM at hp
    split at hp
    ·split at hp
     ·simp only [Option.some.injEq, Prod.mk.injEq] at hp; exact ⟨_, hp.2.symm, by simp⟩
     ·cases hp
    ·cases hp
   obtain ⟨o, rfl, ho⟩ := hW
   refine ⟨WOk.one (by simp [footO, hm, mfoot]) rfl hcnt ho, fun g hg => ?_⟩
   have := hg id (by simp [footO, hm, mfoot])
   simp only [popM, hm, hk, this]; exact hp
  ·cases hp
 ·rename_i args ts
  split at hp
  ·rename_i t t' s x hts hargs
   obtain ⟨e2, e3⟩ := append_loc hp
   have hf : (footO (.call { callee := .builtin .append, args := args, argTypes := ts }) ρ rid) = (sfoot s x rid, true) := by
    simp only [footO, hargs]
   rw [hf]
   refine ⟨e2, fun g hg => ?_⟩
   simp only [popM, hts, hargs]
   exact e3 g hg
  ·cases hp
 ·cases hp
theorem popQ_loc {op : Op} {ρ : Operand → PV} {rid : Nat} {v : PV} {W : Wr} (hp : pop P op ρ h rid = some (v, W)) :
  WOk h W (footQ op ρ rid) ∧ ∀ g : Hp, (∀ x ∈ (footQ op ρ rid).1, g x = h x) → pop P op ρ g rid = some (v, W) := by
 cases op with
 | buildSlice t n ps =>
  have hw : NoW (pop P (.buildSlice t n ps) ρ h rid) := by
   simp only [pop]; (repeat' (first | exact nw_none | exact nw_some _ | exact nw_map _ _ | (refine nw_bind fun _ => ?_) | split))
  have := hw v W hp
  subst this
  exact ⟨fun x o hx => (by cases hx), fun g _ => hp⟩
 | _ => exact pop_loc hp
theorem footO_congr {op : Op} {ρ ρ' : Operand → PV} {rid : Nat} (hρ : ∀ x ∈ op.operands, ρ x = ρ' x) : footO op ρ rid = footO op ρ' rid := by
 cases op with
 | call c =>
  obtain ⟨callee, args, ts⟩ := c
  cases callee with
  | builtin b =>
   have e : args.toList.map ρ = args.toList.map ρ' := List.map_congr_left fun x hx => hρ x (by simp [Op.operands, Call.operands]; simpa using hx)
   cases b <;> first | rfl | simp only [footO, e]
  | value g => rfl
  | invoke r n => rfl
 | load t a => simp only [footO, hρ a (by simp [Op.operands])]
 | store t a x => simp only [footO, hρ a (by simp [Op.operands])]
 | mapUpdate t m k x => simp only [footO, hρ m (by simp [Op.operands])]
 | insert t m k x => simp only [footO, hρ m (by simp [Op.operands])]
 | lookup t m k ok => simp only [footO, hρ m (by simp [Op.operands])]
 | _ => rfl

theorem footQ_congr {op : Op} {ρ ρ' : Operand → PV} {rid : Nat} (hρ : ∀ x ∈ op.operands, ρ x = ρ' x) : footQ op ρ rid = footQ op ρ' rid := by
 cases op with
 | buildSlice t n ps => rfl
 | _ => exact footO_congr (rid := rid) hρ

theorem target_congr {c : Call} {ρ ρ' : Operand → PV} (hρ : ∀ x ∈ c.operands, ρ x = ρ' x) : targetO P c ρ = targetO P c ρ' := by
 have e : (c.args.toList.map fun a => normA (ρ a)) = c.args.toList.map fun a => normA (ρ' a) := List.map_congr_left fun x hx => by rw [hρ x (by simp [Call.operands]; exact .inr (by simpa using hx))]
 unfold targetO
 rw [e]
 cases hc : c.callee with
 | value g => simp only [hρ g (by simp [Call.operands, hc])]
 | invoke r n => simp only [hρ r (by simp [Call.operands, hc])]
 | builtin b => rfl

theorem opval0_loc {Y : YS} {op : Op} {ρ : Operand → PV} {h : Hp} {rid : Nat} {v : PV} {W : Wr} {f : Foot} (hv : OpVal0 P Y op ρ h rid v W f) :
  (∀ x o, (x, o) ∈ W → x ∈ f.1 ∧ f.2 = true) ∧
   ∀ (ρ' : Operand → PV) (g : Hp), (∀ x ∈ op.operands, ρ' x = ρ x) → (∀ x ∈ f.1, g x = h x) → OpVal0 P Y op ρ' g rid v W f := by
 rcases hv with (⟨hp, hf⟩ | ⟨hp, hf⟩) | ⟨ids, hp, hf⟩ | ⟨c, hop, hc | hy | hz⟩
 ·obtain ⟨w1, w2⟩ := popQ_loc hp
  subst hf
  refine ⟨fun x o hx => ⟨(w1 x o hx).1, (w1 x o hx).2.1⟩, fun ρ' g hρ hg => .inl (.inl ⟨?_, (footQ_congr hρ).symm⟩)⟩
  rw [pop_congr hρ]; exact w2 g hg
 ·obtain ⟨w1, w2⟩ := popM_loc hp
  subst hf
  refine ⟨fun x o hx => ⟨(w1 x o hx).1, (w1 x o hx).2.1⟩, fun ρ' g hρ hg => .inl (.inr ⟨?_, (footO_congr hρ).symm⟩)⟩
  rw [popM_congr hρ]; exact w2 g hg
 ·obtain ⟨w1, w2⟩ := popF_loc hp
  subst hf
  refine ⟨fun x o hx => ⟨(w1 x o hx).1, (w1 x o hx).2.1⟩, fun ρ' g hρ hg => .inr (.inl ⟨ids, ?_, rfl⟩)⟩
  rw [popF_congr hρ]; exact w2 g hg
 ·subst hop
  obtain ⟨fn, as, as', hl, hl', v', ids, c1, c2, c3, c4, c5, c6, c7, c8, c9, c10, c11, c12⟩ := hc
  subst c12
  refine ⟨fun x o hx => ⟨?_, rfl⟩, fun ρ' g hρ hg => .inr (.inr ⟨c, rfl, .inl ⟨fn, as, as', hl, hl', v', ids, ?_, c2, c3, c4, c5, fun i j hi => ?_, c7, c8, c9, c10, c11, rfl⟩⟩)⟩
  ·rw [c11] at hx
   have := renW_fst ids hl'
   rw [← this]
   exact List.mem_map.2 ⟨_, hx, rfl⟩
  ·rw [target_congr hρ]; exact c1
  ·rw [hg j (List.mem_of_getElem? hi)]; exact c6 i j hi
 ·subst hop
  obtain ⟨g, as, k, y1, y2, y3, y4, y5, y6, y7, y8, y9⟩ := hy
  subst y9
  refine ⟨fun x o hx => ?_, fun ρ' g' hρ hg => .inr (.inr ⟨c, rfl, .inr (.inl ⟨g, as, k, y1, ?_, ?_, ?_, y5, y6, y7, y8, rfl⟩)⟩)⟩
  ·rw [y8] at hx; simp at hx; exact ⟨by simp [hx.1], rfl⟩
  ·rw [hρ g (by simp [Op.operands, Call.operands, y1])]; exact y2
  ·rw [← y3]; exact allO_congr fun x hx => by rw [hρ x (by simp [Op.operands, Call.operands]; exact .inr (by simpa using hx))]
  ·rw [hg 0 (by simp)]; exact y4
 ·subst hop
  obtain ⟨fn, as, as', hl, hl', v', ids, c1, c2, c3, c4, c5, c6, c7, c8, c10, c11, c12⟩ := hz
  subst c12
  refine ⟨fun x o hx => ⟨?_, rfl⟩, fun ρ' g hρ hg => .inr (.inr ⟨c, rfl, .inr (.inr ⟨fn, as, as', hl, hl', v', ids, ?_, c2, c3, c4, c5, fun i j hi => ?_, c7, c8, c10, c11, rfl⟩)⟩)⟩
  ·rw [c11] at hx
   have := renW_fst ids hl'
   rw [← this]
   exact List.mem_map.2 ⟨_, hx, rfl⟩
  ·rw [target_congr hρ]; exact c1
  ·rw [hg j (List.mem_of_getElem? hi)]; exact c6 i j hi

/-! ### Freezing -/
theorem thawC_congr {g h : Hp} : ∀ {p : PV}, (∀ id ∈ idsG p, g id = h id) → thawC g p = thawC h p := by
 intro p hp
 cases p <;> first | rfl | (rename_i id ver sz o n full; simp only [thawC, hp id (by simp [idsG])]) | (rename_i id; simp only [thawC, hp id (by simp [idsG])])
theorem thawA_congr {g h : Hp} : ∀ {p : PV}, (∀ id ∈ idsG p, g id = h id) → thawA g p = thawA h p := by
 intro p
 induction p with
 | cons b p q ih1 ih2 =>
  intro hp
  simp only [thawA, thawC_congr (p := p) fun id hi => hp id (by simp [idsG, hi]), ih2 fun id hi => hp id (by simp [idsG, hi])]
 | _ => intro _; rfl
theorem thawP_congr {g h : Hp} {p : PV} (hp : ∀ id ∈ idsG p, g id = h id) : thawP g p = thawP h p := by
 cases p with
 | cons b p q => simp only [thawP, thawA_congr hp]
 | _ => simp only [thawP, thawC_congr hp]
def cellsIn : PO → List PV
 | .grow _ cells _ _ => cells
 | .mpo _ cells => cells
 | _ => []
theorem freezeO_congr {g h : Hp} {id : Nat} (h1 : g id = h id) (h2 : ∀ c ∈ cellsIn (h id), ∀ j ∈ idsG c, g j = h j) : freezeO g id = freezeO h id := by
 unfold freezeO
 rw [h1]
 cases hh : h id with
 | grow v cells e sz =>
  rw [hh] at h2
  simp only
  rw [allO_congr (l := cells) fun c hc => thawC_congr (h2 c hc)]
 | mpo t cells =>
  rw [hh] at h2
  simp only
  rw [allO_congr (l := cells) fun c hc => thawC_congr (h2 c hc)]
 | _ => rfl
theorem freezeO_kind {h : Hp} {id : Nat} {o : PO} (hf : freezeO h id = some o) : (cellsIn o = [] ∧ ∀ n, o ≠ .cnt n) ∧ (∀ n, h id ≠ .cnt n) ∧ (h id).live = true := by
 unfold freezeO at hf
 split at hf
 ·rename_i hid
  simp only [Option.map_eq_some_iff] at hf
  obtain ⟨cs, _, rfl⟩ := hf
  exact ⟨⟨rfl, by simp⟩, fun n => by rw [hid]; simp, by rw [hid]; rfl⟩
 ·rename_i hid; cases hf; exact ⟨⟨rfl, by simp⟩, fun n => by rw [hid]; simp, by rw [hid]; rfl⟩
 ·rename_i hid
  simp only [Option.map_eq_some_iff] at hf
  obtain ⟨cs, _, rfl⟩ := hf
  exact ⟨⟨rfl, by simp⟩, fun n => by rw [hid]; simp, by rw [hid]; rfl⟩
 ·rename_i hid; cases hf; exact ⟨⟨rfl, by simp⟩, fun n => by rw [hid]; simp, by rw [hid]; rfl⟩
 ·rename_i hid; cases hf; exact ⟨⟨rfl, by simp⟩, fun n => by rw [hid]; simp, by rw [hid]; rfl⟩
 ·cases hf
theorem closedG_in {h : Hp} {ids : List Nat} (hcl : closedG h ids = true) : ∀ id ∈ ids, ∀ c ∈ cellsIn (h id), ∀ j ∈ idsG c, j ∈ ids := by
 intro i hid c hcc j hj
 unfold closedG at hcl
 rw [List.all_eq_true] at hcl
 have := hcl i hid
 cases hh : h i with
 | grow v cells e sz =>
  rw [hh] at this hcc
  simp only [List.all_eq_true, List.mem_flatMap, List.contains_eq_mem, decide_eq_true_eq] at this
  exact this j ⟨c, hcc, hj⟩
 | mpo t cells =>
  rw [hh] at this hcc
  simp only [List.all_eq_true, List.mem_flatMap, List.contains_eq_mem, decide_eq_true_eq] at this
  exact this j ⟨c, hcc, hj⟩
 | _ => rw [hh] at hcc; simp [cellsIn] at hcc
theorem freezeW_loc (ids : List Nat) : ∀ (l : List Nat) {g h : Hp} {W : Wr}, (∀ x ∈ l, x ∈ ids) → (∀ x ∈ ids, g x = h x) → (∀ id ∈ ids, ∀ c ∈ cellsIn (h id), ∀ j ∈ idsG c, j ∈ ids) → freezeW h l = some W →
  freezeW g l = some W ∧ (∀ x o, (x, o) ∈ W → x ∈ l ∧ ∀ n, o ≠ .cnt n)
 | [], g, h, W, _, _, _, hw => by simp [freezeW] at hw; subst hw; exact ⟨rfl, fun x o hx => by cases hx⟩
 | id :: l, g, h, W, hl, hg, hc, hw => by
  simp only [freezeW] at hw ⊢
  have hid := hl id List.mem_cons_self
  rw [freezeO_congr (hg id hid) fun c hcc j hj => hg j (hc id hid c hcc j hj)]
  split at hw
  ·rename_i o ho
   simp only [Option.map_eq_some_iff] at hw
   obtain ⟨W', hw', rfl⟩ := hw
   obtain ⟨⟨k1, k2⟩, _⟩ := freezeO_kind ho
   obtain ⟨e1, e2⟩ := freezeW_loc ids l (g := upo g id o) (h := upo h id o) (fun x hx => hl x (List.mem_cons_of_mem _ hx)) (fun x hx => by
    by_cases e' : x = id
    ·subst e'; rw [upo_same, upo_same]
    ·rw [upo_other _ _ e', upo_other _ _ e']; exact hg x hx) (fun i hi c hcc => by
    unfold upo at hcc
    split at hcc
    ·rw [k1] at hcc; cases hcc
    ·exact hc i hi c hcc) hw'
   simp only [e1, Option.map_some]
   exact ⟨trivial, fun x o hx => by
    rcases List.mem_cons.1 hx with e | hx
    ·cases e; exact ⟨List.mem_cons_self, k2⟩
    ·exact ⟨List.mem_cons_of_mem _ (e2 x o hx).1, (e2 x o hx).2⟩⟩
  ·cases hw
theorem freezeW_nocnt : ∀ (l : List Nat) {h : Hp} {W : Wr}, freezeW h l = some W → ∀ x ∈ l, ∀ n, h x ≠ .cnt n
 | [], _, _, _, x, hx => by cases hx
 | id :: l, h, W, hw, x, hx => by
  simp only [freezeW] at hw
  split at hw
  ·rename_i o ho
   simp only [Option.map_eq_some_iff] at hw
   obtain ⟨W', hw', rfl⟩ := hw
   obtain ⟨_, h1, _⟩ := freezeO_kind ho
   rcases List.mem_cons.1 hx with rfl | hx
   ·exact h1
   ·intro n hn
    by_cases e : x = id
    ·subst e; exact h1 n hn
    ·exact freezeW_nocnt l hw' x hx n (by rw [upo_other _ _ e]; exact hn)
  ·cases hw
theorem wr_congr0 (W : Wr) : ∀ (l l' : Hp) (x : Nat), l x = l' x → wr l W x = wr l' W x := by
 induction W with
 | nil => intro l l' x h; exact h
 | cons p W ih =>
  intro l l' x h
  refine ih _ _ x ?_
  show upo l p.1 p.2 x = upo l' p.1 p.2 x
  by_cases hx : x = p.1
  ·subst hx; rw [upo_same, upo_same]
  ·rw [upo_other _ _ hx, upo_other _ _ hx]; exact h

theorem opval_loc {Y : YS} {op : Op} {ρ : Operand → PV} {h : Hp} {rid : Nat} {v : PV} {W : Wr} {f : Foot} (hv : OpVal P Y op ρ h rid v W f) :
  (∀ x o, (x, o) ∈ W → x ∈ f.1 ∧ f.2 = true) ∧
   ∀ (ρ' : Operand → PV) (g : Hp), (∀ x ∈ op.operands, ρ' x = ρ x) → (∀ x ∈ f.1, g x = h x) → OpVal P Y op ρ' g rid v W f := by
 rcases hv with hv | ⟨ids, Wf, W0, f0, hcl, hw, hv, rfl, rfl⟩
 ·obtain ⟨h1, h2⟩ := opval0_loc hv
  exact ⟨h1, fun ρ' g a b => .inl (h2 ρ' g a b)⟩
 ·obtain ⟨h1, h2⟩ := opval0_loc hv
  have hc := closedG_in hcl
  refine ⟨fun x o hx => ?_, fun ρ' g a b => .inr ⟨ids, Wf, W0, f0, ?_, ?_, h2 _ _ (fun x hx => ?_) (fun x hx => wr_congr0 Wf _ _ x (b x (List.mem_append_right _ hx))), rfl, rfl⟩⟩
  ·rcases List.mem_append.1 hx with hx | hx
   ·exact ⟨List.mem_append_left _ ((freezeW_loc ids ids (fun _ h => h) (fun _ _ => rfl) hc hw).2 x o hx).1, rfl⟩
   ·exact ⟨List.mem_append_right _ (h1 x o hx).1, rfl⟩
  ·unfold closedG at hcl ⊢
   rw [List.all_eq_true] at hcl ⊢
   intro id hid
   rw [b id (List.mem_append_left _ hid)]; exact hcl id hid
  ·exact (freezeW_loc ids ids (fun _ h => h) (fun x hx => b x (List.mem_append_left _ hx)) hc hw).1
  ·unfold seenF
   rw [a x hx]
   split
   ·rename_i hall
    rw [List.all_eq_true] at hall
    exact thawP_congr fun id hi => wr_congr0 Wf _ _ id (b id (List.mem_append_left _ (by simpa using hall id hi)))
   ·rfl

end Go.Pm

/- Part QmM. -/
namespace Go.Pm
open Go Go.RowKit

variable {P : Program} {C : Cx} {F F' : Fz} {φ φ' φ'' : Nat → Nat × Nat} {h h' h'' : Hp} {w w' : World} {J : Gh} {Y : YS}

theorem R_put {σ : PS} {a : Act} {dst : Option Tmp} {v : PV} {u : Value} {hh : Hp} {G : Nat → Prop} (H : RH P C F' φ' hh w') (hr : RTm F' φ' hh σ.tmps a.tmps) (hid : Hid C φ' hh G w') (hm : Marks C φ' hh G a.defers w') (hJ : J (cntOf hh) F' G w')
  (hv : RepP F' φ' hh v u) : R P C J (σ.put dst v hh) (a.put dst u) w' := by
 refine ⟨F', φ', G, H, ?_, hid, ?_, hJ⟩
 ·cases dst with
  | none => exact hr
  | some d => exact hr.put d hv
 ·cases dst with
  | none => exact hm
  | some d => exact hm

theorem not_defer {P : Program} {op : Op} {ρ : Operand → PV} {rid : Nat} {r : PV × Wr} (hp : pop P op ρ h rid = some r) : ∀ c, op ≠ .defer c := by
 rintro c rfl; simp [pop] at hp

theorem roundIn_any {l : Option Nat} {n m : Nat} {L : Nat} {f : FuncId} {tmps : Array Value} {assign body : Code} {Q : Ending → World → Prop} (h : RoundIn Fence.wide n P L f tmps assign body w Q) : RoundIn (Fr l) m P L f tmps assign body w Q :=
 ⟨trivial, fun c cs _ => h.2 c cs (room_wide _)⟩
theorem callsIn_any {l : Option Nat} {n : Nat} {f : FuncId} {args : Array Value} {Q : Ending → World → Prop} (h : Calls P f args w Q) : CallsIn (Fr l) n P f args w Q := callsIn_wide.2 h

theorem not_deferM {P : Program} {op : Op} {ρ : Operand → PV} {rid : Nat} {r : PV × Wr} (hp : popM P op ρ h rid = some r) : ∀ c, op ≠ .defer c := by
 rintro c rfl; simp [popM] at hp

theorem Stable.sub {B B' : Nat} {E E' : Nat → Prop} {J : Gh} (hst : Stable B E J) (h1 : ∀ b, (B' ≤ b ∨ E' b) → (B ≤ b ∨ E b)) : Stable B' E' J := by
 intro i F G w F' w' hJ hF hag hnew hos htape hout hsz hblk
 refine hst i F G w F' w' hJ hF hag (fun a u e1 e2 => ⟨h1 _ (hnew a u e1 e2).1, (hnew a u e1 e2).2⟩) hos htape hout hsz (fun b hb hg => hblk b hb (hg.imp id fun ⟨q1, q2⟩ => ?_))
 refine ⟨Nat.lt_of_not_le fun hle => ?_, fun he => ?_⟩
 ·rcases h1 b (.inl hle) with h2 | h2
  ·omega
  ·exact q2 h2
 ·rcases h1 b (.inr he) with h2 | h2
  ·omega
  ·exact q2 h2
theorem RH.locG (H : RH P (loc w F φ h) F φ h w) (G : Nat → Prop) : RH P (Pm.locG w F φ h G) F φ h w :=
 ⟨H.agree, Fz.le_refl _, fun a u h1 h2 => (by rw [show F a = none from h2] at h1; cases h1), H.objs, H.inj, fun i li => .inr (.inl ⟨i, li, rfl⟩), Bel.refl _ _, HStep.refl _ _, H.glob⟩
theorem RH.transE (H : RH P C F φ h w) {E : Nat → Prop} (hE : ∀ b, E b → C.w0.heap.size ≤ b ∨ C.E b) (H' : RH P ⟨w, F, h, φ, E⟩ F' φ' h' w') : RH P C F' φ' h' w' := by
 have hsz := H.bel.size
 refine ⟨H'.agree, Fz.le_trans H.more H'.more, fun a u h1 h2 => ?_, H'.objs, H'.inj, fun i li => ?_, ⟨H'.bel.os.trans H.bel.os, H'.bel.tape.trans H.bel.tape, H'.bel.output.trans H.bel.output, Nat.le_trans hsz H'.bel.size, fun k hk he => ?_⟩, H.step.trans H'.step, H'.glob⟩
 ·cases hFa : F a with
  | some v => exact H.news a v hFa h2
  | none =>
   rcases H'.news a u h1 hFa with h3 | h3
   ·exact .inl (Nat.le_trans hsz h3)
   ·exact hE _ h3
 ·rcases H'.high i li with h3 | h3
  ·exact .inl (Nat.le_trans hsz h3)
  ·exact hE _ h3
 ·rw [H'.bel.block k (Nat.lt_of_lt_of_le hk hsz) (fun ho => by
   rcases hE k ho with h3 | h3
   ·omega
   ·exact he h3)]
  exact H.bel.block k hk he

theorem op_sim {l : Option Nat} {n : Nat} (hY : YOk P J Y) (hst : Stable C.w0.heap.size C.E J) {o : Oper} {σ : PS} {ρ : Operand → PV} {rid : Nat} {v : PV} {W : Wr} {f : Foot} {a : Act} {K : Act → World → Prop} {Q : Exit → Act → World → Prop}
  {F : Fz} {φ : Nat → Nat × Nat} {G : Nat → Prop} (H : RH P C F φ σ.heap w) (hr : RTm F φ σ.heap σ.tmps a.tmps) (hid : Hid C φ σ.heap G w) (hm : Marks C φ σ.heap G a.defers w) (hJ : J (cntOf σ.heap) F G w)
  (hρ : ∀ x, RepP F φ σ.heap (ρ x) (a.eval x)) (hv : OpVal0 P Y o.op ρ σ.heap rid v W f) (hK : ∀ a' w', R P C J (σ.put o.dst (condW o true v) (wr σ.heap W)) a' w' → K a' w') : o.wpIn (Fr l) n P a w K Q := by
 have hgoal : o.uponIn (Fr l) n P a K Q ((o.semAt (Fr l).round a.eval).run P w) → o.wpIn (Fr l) n P a w K Q := fun h => ⟨fun _ _ => trivial, h⟩
 refine hgoal ?_
 have hvv : True → OpVal0 P Y o.op ρ σ.heap rid v W f := fun _ => hv
 clear hgoal
 have fin : ∀ (hnd : ∀ c, o.op ≠ .defer c) (hsim : Sim P (loc w F φ σ.heap) σ.heap ((execOp a.eval o).run P w) v W) (hcnt : cntOf (wr σ.heap W) = cntOf σ.heap),
   o.uponIn (Fr l) n P a K Q ((o.semAt (Fr l).round a.eval).run P w) := by
  intro hnd hsim hcnt
  rw [Oper.semAt_plain (Fr l) a.eval o hnd]
  obtain ⟨F', φ', u, w', g1, g2, g3⟩ := hsim
  obtain ⟨s1, s2, s3⟩ := surr hst H hid hm hJ g2
  exact uponIn_gives g1 (hK _ _ (R_put (H.trans g2) (hr.step g2.more g2.step) s1 s2 (by rw [hcnt]; exact s3) (condW_true g3)))
 rcases hvv trivial with (⟨hp, hf⟩ | ⟨hp, hf⟩) | ⟨ids, hp, hf⟩ | ⟨c, hop, hc | hy | hz⟩
 ·exact fin (not_defer hp) (pop_sim H.here hρ hp) (cntOf_wr W _ fun x o hx => ((pop_loc hp).1 x o hx).2.2)
 ·exact fin (not_deferM hp) (popM_sim H.here hρ hp) (cntOf_wr W _ fun x o hx => ((popM_loc hp).1 x o hx).2.2)
 ·exact fin (by rintro c hc; rw [hc] at hp; simp [popF] at hp) (popF_sim H.here hρ hp) (cntOf_wr W _ fun x o hx => ((popF_loc hp).1 x o hx).2.2)
 ·obtain ⟨fn, as, as', hl, hl', v', ids, c1, c2, c3, c4, c5, c6, c7, c8, c8', c9, c10, c11⟩ := hc
  have hnd : ∀ c, o.op ≠ .defer c := by intro c' h'; rw [hop] at h'; cases h'
  rw [Oper.semAt_plain (Fr l) a.eval o hnd]
  obtain ⟨us, hus, hrun⟩ := run_target (P := P) (w := w) (type := o.type) hρ c1 c2.1
  have he : execOp a.eval o = (do let d ← resolve a.eval c o.type; invoke d.target d.args : Sem Next) := by
   simp only [execOp, hop]
  rw [he, hrun]
  refine ⟨fun e => (by cases e), callsIn_any ?_⟩
  let φl : Nat → Nat × Nat := fun i => φ (ids.getD i 0)
  have hRen : Ren ids φ σ.heap φl hl := ⟨fun i j hi => ⟨(c6 i j hi).1, by show φ j = φ (ids.getD i 0); rw [getD_of hi]⟩, fun i hi => (c7 i hi).1⟩
  have hus' : RPs F φl hl as' us := by
   subst c3
   refine ⟨by simpa using hus.1, fun i p u hp hu => hRen.down ?_ (hus.2 i (p.ren ids) u (by rw [List.getElem?_map, hp]; rfl) hu)⟩
   exact (List.all_eq_true.1 c5) p (List.mem_of_getElem? hp)
  refine (c2.2 w F φl us (H.sub c4 hRen fun i j hi => (c6 i j hi).2) hus').mono fun e w' hpost => ?_
  obtain ⟨u, F', φl', rfl, H', hv'⟩ := hpost
  obtain ⟨φ', H2, hRen'⟩ := H.here.join c4 hRen H' (fun i hi => (c7 i hi).2)
  have hW : W = renW ids hl' := c10
  obtain ⟨s1, s2, s3⟩ := surr hst H hid hm hJ H2
  have hcnt : cntOf (wr σ.heap (renW ids hl')) = cntOf σ.heap := by
   unfold cntOf
   by_cases h0 : 0 ∈ ids
   ·obtain ⟨i, hi, e⟩ := List.getElem_of_mem h0
    have hi' : ids[i]? = some 0 := by rw [List.getElem?_eq_getElem hi, e]
    rw [renW_at c4 hi', (c6 i 0 hi').1]
    have a1 := c8 i 0 hi'
    have a2 := c8' i 0 hi'
    cases e1 : hl i <;> cases e2 : hl' i <;> first | rfl | exact absurd e1 (a1 _) | exact absurd e2 (a2 _)
   ·rw [renW_out h0]
  subst hW
  refine hK _ _ (R_put (H.trans H2) (hr.step H2.more H2.step) s1 s2 (by rw [hcnt]; exact s3) (condW_true ?_))
  rw [c9]; exact hRen'.up hv'
 ·obtain ⟨g, as, k, y1, y2, y3, y4, y5, y6, y7, y8, y9⟩ := hy
  have hnd : ∀ c, o.op ≠ .defer c := by intro c' h'; rw [hop] at h'; cases h'
  rw [Oper.semAt_plain (Fr l) a.eval o hnd]
  have he : execOp a.eval o = (do let d ← resolve a.eval c o.type; invoke d.target d.args : Sem Next) := by
   simp only [execOp, hop]
  have hg2 := hρ g
  rw [y2] at hg2
  have hg3 : a.eval g = .func (.yield Y.l) #[] #[] := hg2
  have hus : RepL F as (c.args.toList.map a.eval) := by
   obtain ⟨h1, h2⟩ := allO_some y3
   refine ⟨by simp [h1], fun i x u hxi hui => ?_⟩
   simp only [List.getElem?_map, Option.map_eq_some_iff] at hui
   obtain ⟨b, hb, rfl⟩ := hui
   exact PV.toT_rep (h2 i b x hb hxi) (hρ b)
  have hcnt : cntOf σ.heap = k := by unfold cntOf; rw [y4]
  rw [hcnt] at hJ
  obtain ⟨fn, tmps, assign, body, hy1, hy2⟩ := hY n F G w _ k as y5 y6 hJ H.agree (fun b hb => (hid b hb).1) hus
  have hmap : (c.args.map a.eval) = (c.args.toList.map a.eval).toArray := by apply Array.ext'; simp
  have hrun : (do let d ← resolve a.eval c o.type; invoke d.target d.args : Sem Next).run P w = .ok (.round Y.l fn tmps assign body) w := by
   simp only [Sem.run_bind, resolve, y1, hg3, Deferred.ofValue, Sem.run_pure, Result.andThen_ok, invoke, hmap]
   have e : #[] ++ (c.args.toList.map a.eval).toArray = (c.args.toList.map a.eval).toArray := by simp
   rw [e]; exact hy1
  rw [he, hrun]
  refine ⟨fun e => (by cases e), roundIn_any (hy2.mono fun e w' hpost => ?_)⟩
  obtain ⟨F', G', rfl, p1, p2, p3, p4, p5, p6, p7⟩ := hpost
  subst y8
  have hlive : ∀ j, (wr σ.heap [(0, .cnt (k + 1))] j).live = true → wr σ.heap [(0, .cnt (k + 1))] j = σ.heap j ∧ (σ.heap j).live = true := by
   intro j lj
   by_cases e : j = 0
   ·subst e; rw [show wr σ.heap [(0, .cnt (k + 1))] 0 = .cnt (k + 1) from upo_same σ.heap 0 _] at lj; cases lj
   ·have : wr σ.heap [(0, .cnt (k + 1))] j = σ.heap j := upo_other _ _ e
    rw [this] at lj ⊢; exact ⟨rfl, lj⟩
  have hap : ∀ j, (σ.heap j).live = true → ¬ G (φ j).1 := fun j lj hg => (hid _ hg).2.1 ⟨j, lj, rfl⟩
  have hs : HStep φ φ σ.heap (wr σ.heap [(0, .cnt (k + 1))]) := by
   have := HStep.one (φ := φ) (h := σ.heap) (id := 0) (o := .cnt (k + 1)) (φ 0) (by rw [y4]; exact ⟨k + 1, rfl⟩)
   rwa [upd_self] at this
  have H2 : RH P C F' φ (wr σ.heap [(0, .cnt (k + 1))]) w' := by
   refine ⟨p3, Fz.le_trans H.more p2, fun a u h1 h2 => ?_, fun j => ?_, fun i j li lj e => H.inj i j (hlive i li).2 (hlive j lj).2 e, fun i li => H.high i (hlive i li).2, ?_, H.step.trans hs, H.glob.mono p2⟩
   ·cases hFa : F a with
    | some v => exact H.news a v hFa h2
    | none =>
     rcases p4 a u h1 hFa with h3 | h3
     ·exact .inl (Nat.le_trans H.bel.size h3)
     ·exact (hid _ h3).2.2
   ·cases ho2 : (wr σ.heap [(0, .cnt (k + 1))] j).live with
    | false => cases hh : wr σ.heap [(0, .cnt (k + 1))] j <;> first | trivial | (rw [hh] at ho2; cases ho2) | (rw [hh] at ho2; intro h0; simp [PO.live] at ho2; omega)
    | true =>
     obtain ⟨e1, e2⟩ := hlive j ho2
     rw [e1]
     refine (H.objs j).step (fun _ => rfl) hs p2 (fun lj b hb => ?_) (fun lj => p5.block _ (H.blk lj) (hap j lj))
     cases hFa : F b with
     | some v => exact p2 _ _ hFa
     | none =>
      cases hFb : F' b with
      | none => rfl
      | some v =>
       rcases p4 _ _ hFb hFa with h3 | h3
       ·have := H.blk lj; exact absurd (show w.heap.size ≤ (φ j).1 from by rw [← hb]; exact h3) (by omega)
       ·rw [hb] at h3; exact absurd h3 (hap j lj)
   ·refine ⟨p5.os.trans H.bel.os, p5.tape.trans H.bel.tape, p5.output.trans H.bel.output, Nat.le_trans H.bel.size p5.size, fun q hq he => ?_⟩
    rw [p5.block q (Nat.lt_of_lt_of_le hq H.bel.size) (fun hg => by
     rcases (hid q hg).2.2 with h3 | h3
     ·omega
     ·exact he h3)]
    exact H.bel.block q hq he
  have hown : ∀ b, own φ (wr σ.heap [(0, .cnt (k + 1))]) b → own φ σ.heap b := fun b ⟨i, li, e⟩ => ⟨i, (hlive i li).2, e⟩
  have hblk : ∀ b, own φ σ.heap b → b < w.heap.size := fun b ⟨i, li, e⟩ => e ▸ H.blk li
  have e0 : wr σ.heap [(0, .cnt (k + 1))] 0 = .cnt (k + 1) := upo_same σ.heap 0 _
  have e3 : cntOf (wr σ.heap [(0, .cnt (k + 1))]) = k + 1 := by unfold cntOf; rw [e0]
  refine hK _ _ (R_put (G := G') H2 (hr.step p2 hs) (fun b hb => ⟨p7 b hb, fun ho => ?_, ?_⟩) ⟨hm.1, fun d hd => ?_⟩ (by rw [e3]; exact p1) (condW_true ?_))
  ·have ho' := hown b ho
   rcases p6 b hb with h3 | h3
   ·exact (hid b h3).2.1 ho'
   ·have := hblk b ho'; omega
  ·rcases p6 b hb with h3 | h3
   ·exact (hid b h3).2.2
   ·exact .inl (Nat.le_trans H.bel.size h3)
  ·obtain ⟨D, e, h1, h2, h3, h4⟩ := hm.2 d hd
   have hlt := lt_of_block h2
   refine ⟨D, e, h1, (p5.block D hlt h4).trans h2, fun ho => h3 (hown D ho), fun hg => ?_⟩
   rcases p6 D hg with h5 | h5
   ·exact h4 h5
   ·omega
  ·rw [y7]; exact RepT.bool _
 ·obtain ⟨fn, as, as', hl, hl', v', ids, c1, c2, c3, c4, c5, c6, c7, c8, c9, c10, c11⟩ := hz
  have hnd : ∀ c, o.op ≠ .defer c := by intro c' h'; rw [hop] at h'; cases h'
  rw [Oper.semAt_plain (Fr l) a.eval o hnd]
  obtain ⟨us, hus, hrun⟩ := run_target (P := P) (w := w) (type := o.type) hρ c1 c2.1
  have he : execOp a.eval o = (do let d ← resolve a.eval c o.type; invoke d.target d.args : Sem Next) := by
   simp only [execOp, hop]
  rw [he, hrun]
  refine ⟨fun e => (by cases e), callsIn_any ?_⟩
  let φl : Nat → Nat × Nat := fun i => φ (ids.getD i 0)
  have hRen : Ren ids φ σ.heap φl hl := ⟨fun i j hi => ⟨(c6 i j hi).1, by show φ j = φ (ids.getD i 0); rw [getD_of hi]⟩, fun i hi => (c7 i hi).1⟩
  have hus' : RPs F φl hl as' us := by
   subst c3
   refine ⟨by simpa using hus.1, fun i p u hp hu => hRen.down ?_ (hus.2 i (p.ren ids) u (by rw [List.getElem?_map, hp]; rfl) hu)⟩
   exact (List.all_eq_true.1 c5) p (List.mem_of_getElem? hp)
  have hownl : ∀ b, own φl hl b → own φ σ.heap b := by
   rintro b ⟨i, li, e⟩
   have hi := at_lt (hRen.lt_of_live li)
   exact ⟨_, by rw [hRen.live hi]; exact li, by rw [(hRen.at_ _ _ hi).2]; exact e⟩
  have hownC : ∀ b, own φ σ.heap b → C.w0.heap.size ≤ b ∨ C.E b := fun b ⟨id, hl, e⟩ => e ▸ H.high id hl
  have hsub := H.sub c4 hRen fun i j hi => (c6 i j hi).2
  have cnt_ren : ∀ (x : PO), cntOf (fun i => if i = 0 then x.ren ids else .res) = cntOf (fun i => if i = 0 then x else .res) := by
   intro x; unfold cntOf; simp only [if_true]; cases x <;> rfl
  have cnt_at : ∀ (hh : Hp), cntOf hh = cntOf (fun i => if i = 0 then hh 0 else .res) := by intro hh; unfold cntOf; simp only [if_true]
  have hc0 : cntOf hl = cntOf σ.heap := by
   rw [cnt_at hl, cnt_at σ.heap, (c6 0 0 c8).1, cnt_ren]
  have hc1 : cntOf (wr σ.heap (renW ids hl')) = cntOf hl' := by
   rw [cnt_at (wr σ.heap (renW ids hl')), cnt_at hl', renW_at c4 c8, cnt_ren]
  have hstl : Stable w.heap.size (fun b => own φl hl b ∨ G b) J := Stable.sub hst fun b hb => by
   rcases hb with hb | hb | hb
   ·exact .inl (Nat.le_trans H.bel.size hb)
   ·exact hownC b (hownl b hb)
   ·exact (hid b hb).2.2
  have hGl : ∀ b, G b → ¬ own φ σ.heap b := fun b hb => (hid b hb).2.1
  refine (c2.2 J w F φl G us hstl hY (hsub.locG G) hus' (fun b hb => ⟨(hid b hb).1, fun ho => hGl b hb (hownl b ho)⟩) (by rw [hc0]; exact hJ)).mono fun e w' hpost => ?_
  obtain ⟨u, F', φl', G', rfl, H', hv', hG', hJ'⟩ := hpost
  obtain ⟨φ', H2, hRen', hnot⟩ := H.here.joinG hGl c4 hRen H' (fun i hi => (c7 i hi).2)
  have hW : W = renW ids hl' := c10
  subst hW
  have HC := H.transE (E := fun b => own φ σ.heap b ∨ G b) (fun b hb => by
   rcases hb with hb | hb
   ·exact hownC b hb
   ·exact (hid b hb).2.2) H2
  have hsz : w.heap.size ≤ w'.heap.size := H'.bel.size
  have hold : ∀ b, own φ' (wr σ.heap (renW ids hl')) b → own φl' hl' b ∨ (own φ σ.heap b ∧ ¬ own φl hl b) := by
   rintro b ⟨j, lj, e⟩
   by_cases hj : j ∈ ids
   ·obtain ⟨i, hi, e2⟩ := List.getElem_of_mem hj
    have hi' : ids[i]? = some j := by rw [List.getElem?_eq_getElem hi, e2]
    exact .inl ⟨i, by rw [← hRen'.live hi']; exact lj, by rw [← (hRen'.at_ i j hi').2]; exact e⟩
   ·rw [renW_out hj] at lj
    rw [hnot j hj] at e
    refine .inr ⟨⟨j, lj, e⟩, fun ⟨i, li, e3⟩ => ?_⟩
    have hi := at_lt (hRen.lt_of_live li)
    have := H.inj _ j (by rw [hRen.live hi]; exact li) lj (by rw [(hRen.at_ _ _ hi).2, e3, e])
    exact hj (this ▸ List.mem_of_getElem? hi)
  have hblk : ∀ b, own φ σ.heap b → b < w.heap.size := fun b ⟨i, li, e⟩ => e ▸ H.blk li
  refine hK _ _ (R_put (G := G') HC (hr.step H2.more H2.step) (fun b hb => ?_) ⟨hm.1, fun d hd => ?_⟩ (by rw [hc1]; exact hJ') (condW_true ?_))
  ·obtain ⟨g1, g2, g3⟩ := hG' b hb
   refine ⟨g1, fun ho => ?_, ?_⟩
   ·rcases hold b ho with ho | ⟨ho, hno⟩
    ·exact g2 ho
    ·have := hblk b ho
     rcases g3 with g3 | g3 | g3
     ·omega
     ·exact hno g3
     ·exact hGl b g3 ho
   ·rcases g3 with g3 | g3 | g3
    ·exact .inl (Nat.le_trans H.bel.size g3)
    ·exact hownC b (hownl b g3)
    ·exact (hid b g3).2.2
  ·obtain ⟨D, e, h1, h2, h3, h4⟩ := hm.2 d hd
   have hlt := lt_of_block h2
   have hnl : ¬ own φl hl D := fun ho => h3 (hownl D ho)
   refine ⟨D, e, h1, (H'.bel.block D hlt (fun ho => ho.elim hnl h4)).trans h2, fun ho => ?_, fun hg => ?_⟩
   ·rcases hold D ho with ho | ⟨ho, _⟩
    ·obtain ⟨i, li, e3⟩ := ho
     rcases H'.high i li with h5 | h5
     ·rw [e3] at h5; exact absurd (show w.heap.size ≤ D from h5) (by omega)
     ·rw [e3] at h5; exact h5.elim hnl h4
    ·exact h3 ho
   ·obtain ⟨_, _, g3⟩ := hG' D hg
    rcases g3 with g3 | g3 | g3
    ·omega
    ·exact hnl g3
    ·exact h4 g3
  ·rw [c9]; exact hRen'.up hv'

theorem step_sim {l : Option Nat} {n : Nat} (hY : YOk P J Y) (hst : Stable C.w0.heap.size C.E J) {ops : Array Oper} {o : Oper} {σ σ' : PS} {W : Wr} {f : Foot} {a : Act} {K : Act → World → Prop} {Q : Exit → Act → World → Prop}
  (hs : OpStep P Y ops o σ σ' W f) (hR : R P C J σ a w) (hK : ∀ a' w', R P C J σ' a' w' → K a' w') :
  if Region.wanted o (yielded ops a.tmps) = true then o.wpIn (Fr l) n P a w K Q else (∀ f, o.about P w a.eval = some f → (Fr l).fn f) ∧ K (a.put o.dst undef) w := by
 obtain ⟨F, φ, G, H, hr, hid, hm, hJ⟩ := hR
 obtain ⟨b, v, rid, hg, hv, hskip, rfl⟩ := hs
 rw [guard_sim hr hg]
 cases b with
 | false =>
  have e := hskip rfl
  subst e
  simp only [Bool.false_eq_true, if_false]
  refine ⟨fun _ _ => trivial, hK _ _ (R_put H hr hid hm hJ ?_)⟩
  have hg' : o.guard ≠ none := by
   intro e
   unfold guardO at hg
   rw [e] at hg; cases hg
  unfold condW
  split
  ·rename_i e; exact absurd e hg'
  ·exact ⟨fun e => (by cases e), fun _ => rfl⟩
 | true =>
  simp only [if_true]
  have hρ := seenBy_rep (o := o) (b := true) rfl fun x => eval_rep (a := a) H.glob hr x
  rcases hv rfl with hv0 | ⟨ids, Wf, W0, f0, hcl, hw, hv0, rfl, rfl⟩
  ·exact op_sim hY hst H hr hid hm hJ hρ hv0 hK
  ·obtain ⟨F1, H1, l1, s1⟩ := RH.freezeRows ids H.here hw
   obtain ⟨t1, t2, t3⟩ := surr hst H hid hm hJ H1
   have hc := closedG_in hcl
   have hcnt : cntOf (wr σ.heap Wf) = cntOf σ.heap := cntOf_wr Wf _ fun x o hx => by
    obtain ⟨q1, q2⟩ := (freezeW_loc ids ids (fun _ h => h) (fun _ _ => rfl) hc hw).2 x o hx
    exact ⟨freezeW_nocnt ids hw x q1, q2⟩
   have hr1 : RTm F1 φ (wr σ.heap Wf) σ.tmps a.tmps := hr.step l1 s1
   refine op_sim (σ := ⟨σ.tmps, wr σ.heap Wf⟩) hY hst (H.trans H1) hr1 t1 t2 (by show J (cntOf (wr σ.heap Wf)) F1 G w; rw [hcnt]; exact t3) (ρ := seenF (wr σ.heap Wf) ids (seenBy o true σ.eval)) (fun x => ?_) hv0 (fun a' w' hR => hK a' w' ?_)
   ·have hx := seenBy_rep (o := o) (b := true) rfl (fun x => eval_rep (σ := ⟨σ.tmps, wr σ.heap Wf⟩) (a := a) (H.trans H1).glob hr1 x) x
    unfold seenF
    split
    ·exact thawP_rep (H.trans H1) hx
    ·exact hx
   ·rw [wr_append]; exact hR

end Go.Pm

/- Part QmN. -/
namespace Go.Pm
open Go Go.RowKit

/-! ### Writes into a list, some of them made -/
section
variable {α : Type}
def wrL (l : List α) (W : List (Nat × α)) : List α := W.foldl (fun l p => l.set p.1 p.2) l
theorem wrL_other (W : List (Nat × α)) : ∀ (l : List α) (x : Nat), (∀ v, (x, v) ∉ W) → (wrL l W)[x]? = l[x]? := by
 induction W with
 | nil => intro l x _; rfl
 | cons p W ih =>
  intro l x hx
  show (wrL (l.set p.1 p.2) W)[x]? = _
  rw [ih _ _ fun v hv => hx v (List.mem_cons_of_mem _ hv)]
  rw [List.getElem?_set_ne]
  intro e; exact hx p.2 (by rw [← e]; exact List.mem_cons_self)
theorem wrL_congr (W : List (Nat × α)) : ∀ (l l' : List α) (x : Nat), l[x]? = l'[x]? → (wrL l W)[x]? = (wrL l' W)[x]? := by
 induction W with
 | nil => intro l l' x h; exact h
 | cons p W ih =>
  intro l l' x h
  refine ih _ _ x ?_
  by_cases hx : p.1 = x
  ·subst hx
   rw [List.getElem?_set_self', List.getElem?_set_self', h]
  ·rw [List.getElem?_set_ne hx, List.getElem?_set_ne hx]; exact h

def runW (Ws : Nat → List (Nat × α)) (p : Nat → Bool) (n : Nat) (l : List α) : List α := (List.range n).foldl (fun l i => if p i then wrL l (Ws i) else l) l
theorem runW_succ (Ws : Nat → List (Nat × α)) (p : Nat → Bool) (n : Nat) (l : List α) : runW Ws p (n + 1) l = if p n then wrL (runW Ws p n l) (Ws n) else runW Ws p n l := by
 simp [runW, List.range_succ, List.foldl_append]
theorem runW_congr {Ws : Nat → List (Nat × α)} {p p' : Nat → Bool} {l : List α} {x : Nat} : ∀ (n : Nat), (∀ j, j < n → (∃ v, (x, v) ∈ Ws j) → p j = p' j) → (runW Ws p n l)[x]? = (runW Ws p' n l)[x]?
 | 0, _ => rfl
 | n + 1, h => by
  have ih := runW_congr (l := l) n fun j hj => h j (by omega)
  rw [runW_succ, runW_succ]
  by_cases hw : ∃ v, (x, v) ∈ Ws n
  ·rw [h n (by omega) hw]
   split
   ·exact wrL_congr _ _ _ _ ih
   ·exact ih
  ·have hn : ∀ v, (x, v) ∉ Ws n := fun v hv => hw ⟨v, hv⟩
   have e : ∀ q : Nat → Bool, (if q n = true then wrL (runW Ws q n l) (Ws n) else runW Ws q n l)[x]? = (runW Ws q n l)[x]? := by
    intro q
    split
    ·exact wrL_other _ _ _ hn
    ·rfl
   rw [e, e]; exact ih
theorem runW_none {Ws : Nat → List (Nat × α)} {p : Nat → Bool} {l : List α} {k : Nat} : ∀ (n : Nat), k ≤ n → (∀ j, k ≤ j → j < n → p j = false) → runW Ws p n l = runW Ws p k l
 | 0, hk, _ => by have : k = 0 := by omega
                  subst this; rfl
 | n + 1, hk, h => by
  by_cases e : k = n + 1
  ·subst e; rfl
  ·rw [runW_succ, h n (by omega) (by omega)]
   exact runW_none n (by omega) fun j a b => h j a (by omega)
theorem runW_insert {Ws : Nat → List (Nat × α)} {p : Nat → Bool} {n i : Nat} {l : List α} (hi : i < n) (hpi : p i = false) (hlate : ∀ j, i < j → j < n → p j = true → ∀ x v v', (x, v) ∈ Ws i → (x, v') ∉ Ws j) :
  runW Ws (fun j => p j || j == i) n l = wrL (runW Ws p n l) (Ws i) := by
 apply List.ext_getElem?
 intro x
 by_cases hw : ∃ v, (x, v) ∈ Ws i
 ·obtain ⟨v, hv⟩ := hw
  have e1 : (runW Ws (fun j => p j || j == i) n l)[x]? = (runW Ws (fun j => (p j || j == i) && decide (j ≤ i)) n l)[x]? := by
   refine runW_congr n fun j hj ⟨v', hv'⟩ => ?_
   by_cases hji : j ≤ i
   ·simp [hji]
   ·have : p j = false := by
     cases hp : p j with
     | false => rfl
     | true => exact absurd hv' (hlate j (by omega) hj hp x v v' hv)
    have hne : (j == i) = false := by simp; omega
    simp [this, hne, hji]
  have e2 : (runW Ws p n l)[x]? = (runW Ws (fun j => p j && decide (j < i)) n l)[x]? := by
   refine runW_congr n fun j hj ⟨v', hv'⟩ => ?_
   by_cases hji : j < i
   ·simp [hji]
   ·by_cases he : j = i
    ·subst he; simp [hpi]
    ·have : p j = false := by
      cases hp : p j with
      | false => rfl
      | true => exact absurd hv' (hlate j (by omega) hj hp x v v' hv)
     simp [this]
  rw [e1]
  rw [runW_none (k := i + 1) n (by omega) (fun j a b => by simp; omega)]
  rw [runW_succ]
  simp only [beq_self_eq_true, Bool.or_true, Nat.le_refl, decide_true, Bool.and_self, if_true]
  refine wrL_congr _ _ _ _ ?_
  rw [e2, runW_none (k := i) n (by omega) (fun j a b => by simp; omega)]
  refine runW_congr i fun j hj _ => ?_
  have hne : (j == i) = false := by simp; omega
  simp [hj, hne]
  omega
 ·have hn : ∀ v, (x, v) ∉ Ws i := fun v hv => hw ⟨v, hv⟩
  rw [wrL_other _ _ _ hn]
  refine runW_congr n fun j hj hx => ?_
  by_cases he : j = i
  ·subst he; exact absurd hx hw
  ·simp [he]
end


/-! ### Writes into the heap, some of them made -/
theorem wr_congr (W : Wr) : ∀ (l l' : Hp) (x : Nat), l x = l' x → wr l W x = wr l' W x := by
 induction W with
 | nil => intro l l' x h; exact h
 | cons p W ih =>
  intro l l' x h
  refine ih _ _ x ?_
  show upo l p.1 p.2 x = upo l' p.1 p.2 x
  by_cases hx : x = p.1
  ·subst hx; rw [upo_same, upo_same]
  ·rw [upo_other _ _ hx, upo_other _ _ hx]; exact h
def runH (Ws : Nat → Wr) (p : Nat → Bool) (n : Nat) (l : Hp) : Hp := (List.range n).foldl (fun l i => if p i then wr l (Ws i) else l) l
theorem runH_succ (Ws : Nat → Wr) (p : Nat → Bool) (n : Nat) (l : Hp) : runH Ws p (n + 1) l = if p n then wr (runH Ws p n l) (Ws n) else runH Ws p n l := by
 simp [runH, List.range_succ, List.foldl_append]
theorem runH_congr {Ws : Nat → Wr} {p p' : Nat → Bool} {l : Hp} {x : Nat} : ∀ (n : Nat), (∀ j, j < n → (∃ v, (x, v) ∈ Ws j) → p j = p' j) → runH Ws p n l x = runH Ws p' n l x
 | 0, _ => rfl
 | n + 1, h => by
  have ih := runH_congr (l := l) n fun j hj => h j (by omega)
  rw [runH_succ, runH_succ]
  by_cases hw : ∃ v, (x, v) ∈ Ws n
  ·rw [h n (by omega) hw]
   split
   ·exact wr_congr _ _ _ _ ih
   ·exact ih
  ·have hn : ∀ v, (x, v) ∉ Ws n := fun v hv => hw ⟨v, hv⟩
   have e : ∀ q : Nat → Bool, (if q n = true then wr (runH Ws q n l) (Ws n) else runH Ws q n l) x = runH Ws q n l x := by
    intro q
    split
    ·exact wr_out _ _ _ hn
    ·rfl
   rw [e, e]; exact ih
theorem runH_none {Ws : Nat → Wr} {p : Nat → Bool} {l : Hp} {k : Nat} : ∀ (n : Nat), k ≤ n → (∀ j, k ≤ j → j < n → p j = false) → runH Ws p n l = runH Ws p k l
 | 0, hk, _ => by have : k = 0 := by omega
                  subst this; rfl
 | n + 1, hk, h => by
  by_cases e : k = n + 1
  ·subst e; rfl
  ·rw [runH_succ, h n (by omega) (by omega)]
   exact runH_none n (by omega) fun j a b => h j a (by omega)
theorem runH_insert {Ws : Nat → Wr} {p : Nat → Bool} {n i : Nat} {l : Hp} (hi : i < n) (hpi : p i = false) (hlate : ∀ j, i < j → j < n → p j = true → ∀ x v v', (x, v) ∈ Ws i → (x, v') ∉ Ws j) :
  runH Ws (fun j => p j || j == i) n l = wr (runH Ws p n l) (Ws i) := by
 funext x
 by_cases hw : ∃ v, (x, v) ∈ Ws i
 ·obtain ⟨v, hv⟩ := hw
  have e1 : runH Ws (fun j => p j || j == i) n l x = runH Ws (fun j => (p j || j == i) && decide (j ≤ i)) n l x := by
   refine runH_congr n fun j hj ⟨v', hv'⟩ => ?_
   by_cases hji : j ≤ i
   ·simp [hji]
   ·have : p j = false := by
     cases hp : p j with
     | false => rfl
     | true => exact absurd hv' (hlate j (by omega) hj hp x v v' hv)
    have hne : (j == i) = false := by simp; omega
    simp [this, hne, hji]
  have e2 : runH Ws p n l x = runH Ws (fun j => p j && decide (j < i)) n l x := by
   refine runH_congr n fun j hj ⟨v', hv'⟩ => ?_
   by_cases hji : j < i
   ·simp [hji]
   ·by_cases he : j = i
    ·subst he; simp [hpi]
    ·have : p j = false := by
      cases hp : p j with
      | false => rfl
      | true => exact absurd hv' (hlate j (by omega) hj hp x v v' hv)
     simp [this]
  rw [e1]
  rw [runH_none (k := i + 1) n (by omega) (fun j a b => by simp; omega)]
  rw [runH_succ]
  simp only [beq_self_eq_true, Bool.or_true, Nat.le_refl, decide_true, Bool.and_self, if_true]
  refine wr_congr _ _ _ _ ?_
  rw [e2, runH_none (k := i) n (by omega) (fun j a b => by simp; omega)]
  refine runH_congr i fun j hj _ => ?_
  have hne : (j == i) = false := by simp; omega
  simp [hj, hne]
  omega
 ·have hn : ∀ v, (x, v) ∉ Ws i := fun v hv => hw ⟨v, hv⟩
  rw [wr_out _ _ _ hn]
  refine runH_congr n fun j hj hx => ?_
  by_cases he : j = i
  ·subst he; exact absurd hx hw
  ·simp [he]

variable {P : Program} {C : Cx} {J : Gh} {Y : YS} {w : World}

def StepAt (P : Program) (Y : YS) (ops : Array Oper) (i : Nat) (σ σ' : PS) (f : Foot) : Prop := ∃ o W, ops[i]? = some o ∧ OpStep P Y ops o σ σ' W f

def pops (P : Program) (Y : YS) (ops : Array Oper) : List Nat → PS → List Foot → (PS → List Foot → Prop) → Prop
 | [], σ, fs, K => K σ fs
 | i :: l, σ, fs, K => ∃ σ' f, StepAt P Y ops i σ σ' f ∧ pops P Y ops l σ' (fs ++ [f]) K

def edgesO (o : Oper) : List Nat := (o.after.toList.filter (Region.binds .any)).map (·.on)
def bitsAt (acc : List Nat) (es : List Nat) : Nat := es.foldl (fun s k => s ||| 2 ^ k ||| acc.getD k 0) 0
def bitsGo : List Oper → List Nat → List Nat
 | [], acc => acc
 | o :: l, acc => bitsGo l (acc ++ [bitsAt acc (edgesO o)])
def bitsO (ops : Array Oper) : List Nat := bitsGo ops.toList []
def heapApart (a b : Foot) : Bool := (!a.2 && !b.2) || a.1.all fun x => !b.1.contains x
def pairOk (ops : Array Oper) (bits : List Nat) (fs : List Foot) (i j : Nat) : Bool :=
 (bits.getD i 0).testBit j || (match ops[i]?, ops[j]? with | some a, some b => a.apart ops b | _, _ => false) && heapApart (fs.getD i ([], false)) (fs.getD j ([], false))
def drawOk (ops : Array Oper) (fs : List Foot) : Bool :=
 (List.range ops.size).all fun i => (match ops[i]? with | some o => (edgesO o).all (· < i) | none => true) && (List.range i).all fun j => pairOk ops (bitsO ops) fs i j

def pregion (P : Program) (Y : YS) (ops : Array Oper) (draw : Bool) (K : PS → Prop) (σ : PS) : Prop :=
 pops P Y ops (List.range ops.size) σ [] fun σ' fs => (draw = true → drawOk ops fs = true) ∧ K σ'

theorem wpOpsIn_congr {F : Fence} {n : Nat} {ops : Array Oper} {Q : Exit → Act → World → Prop} {l : List Nat} {a : Act} (i : Nat) {o : Oper} (ho : ops[i]? = some o)
  (h : if Region.wanted o (yielded ops a.tmps) = true then o.wpIn F n P a w (wpOpsIn F n P ops Q l) Q else (∀ f, o.about P w a.eval = some f → F.fn f) ∧ wpOpsIn F n P ops Q l (a.put o.dst undef) w) : wpOpsIn F n P ops Q (i :: l) a w := by
 simp only [wpOpsIn, ho]
 exact h

theorem pops_sound {r : Option Nat} {n : Nat} (hY : YOk P J Y) (hst : Stable C.w0.heap.size C.E J) {ops : Array Oper} {Q : Exit → Act → World → Prop} : ∀ (l : List Nat) (σ : PS) (fs : List Foot) (K : PS → List Foot → Prop) (a : Act) (w : World),
  pops P Y ops l σ fs K → R P C J σ a w → (∀ σ' fs a' w', K σ' fs → R P C J σ' a' w' → Q .normal a' w') → wpOpsIn (Fr r) n P ops Q l a w
 | [], σ, fs, K, a, w, h, hR, hK => hK σ fs a w h hR
 | i :: l, σ, fs, K, a, w, h, hR, hK => by
  obtain ⟨σ', f, ⟨o, W, ho, hst'⟩, hl⟩ := h
  exact wpOpsIn_congr i ho (step_sim hY hst hst' hR fun a' w' hR' => pops_sound hY hst l σ' _ K a' w' hl hR' hK)

/-! ### Any order -/
theorem bitsGo_pre (l : List Oper) : ∀ acc i, i < acc.length → (bitsGo l acc)[i]? = acc[i]? := by
 induction l with
 | nil => intro acc i _; rfl
 | cons o l ih =>
  intro acc i hi
  simp only [bitsGo]
  rw [ih _ _ (by simp; omega), List.getElem?_append_left hi]
theorem bitsGo_at (l : List Oper) : ∀ acc k o, l[k]? = some o → ∃ pre : List Nat, pre.length = acc.length + k ∧ (∀ i, i < pre.length → (bitsGo l acc)[i]? = pre[i]?) ∧ (bitsGo l acc)[acc.length + k]? = some (bitsAt pre (edgesO o)) := by
 induction l with
 | nil => intro acc k o hk; simp at hk
 | cons x l ih =>
  intro acc k o hk
  simp only [bitsGo]
  cases k with
  | zero =>
   simp at hk; subst hk
   refine ⟨acc, rfl, fun i hi => ?_, ?_⟩
   ·rw [bitsGo_pre _ _ _ (by simp; omega), List.getElem?_append_left hi]
   ·rw [bitsGo_pre _ _ _ (by simp)]; simp
  | succ k =>
   obtain ⟨pre, h1, h2, h3⟩ := ih (acc ++ [bitsAt acc (edgesO x)]) k o (by simpa using hk)
   refine ⟨pre, by simp at h1; omega, h2, ?_⟩
   have e : (acc ++ [bitsAt acc (edgesO x)]).length + k = acc.length + (k + 1) := by simp; omega
   rw [e] at h3; exact h3
theorem bitsAt_test (acc : List Nat) (j : Nat) : ∀ (es : List Nat) (s : Nat), (es.foldl (fun s k => s ||| 2 ^ k ||| acc.getD k 0) s).testBit j = true → s.testBit j = true ∨ ∃ k ∈ es, j = k ∨ (acc.getD k 0).testBit j = true := by
 intro es
 induction es with
 | nil => intro s h; exact .inl h
 | cons k es ih =>
  intro s h
  simp only [List.foldl_cons] at h
  rcases ih _ h with h | ⟨k', hk', h⟩
  ·simp only [Nat.testBit_or, Bool.or_eq_true, Nat.testBit_two_pow, decide_eq_true_eq] at h
   rcases h with (h | h) | h
   ·exact .inl h
   ·exact .inr ⟨k, List.mem_cons_self, .inl h.symm⟩
   ·exact .inr ⟨k, List.mem_cons_self, .inr h⟩
  ·exact .inr ⟨k', List.mem_cons_of_mem _ hk', h⟩

theorem bits_closed {ops : Array Oper} {D : Nat → Bool} (hD : ∀ i o, ops[i]? = some o → D i = true → ∀ e ∈ edgesO o, D e = true) (hlt : ∀ i o, ops[i]? = some o → ∀ e ∈ edgesO o, e < i) :
  ∀ (i : Nat) (o : Oper), ops[i]? = some o → (∀ e ∈ edgesO o, D e = true) → ∀ j, ((bitsO ops).getD i 0).testBit j = true → D j = true := by
 intro i
 induction i using Nat.strongRecOn with
 | _ i ih =>
  intro o ho he j hj
  obtain ⟨pre, h1, h2, h3⟩ := bitsGo_at ops.toList [] i o (by simpa using ho)
  simp only [List.length_nil, Nat.zero_add] at h1 h3
  have e1 : (bitsO ops).getD i 0 = bitsAt pre (edgesO o) := by rw [List.getD_eq_getElem?_getD]; unfold bitsO; rw [h3]; rfl
  rw [e1] at hj
  rcases bitsAt_test pre j _ _ hj with h | ⟨k, hk, h⟩
  ·simp at h
  ·rcases h with rfl | h
   ·exact he _ hk
   ·have hki := hlt i o ho k hk
    have e2 : pre.getD k 0 = (bitsO ops).getD k 0 := by
     rw [List.getD_eq_getElem?_getD, List.getD_eq_getElem?_getD, ← h2 k (by omega)]; rfl
    rw [e2] at h
    have hks : k < ops.size := by have := (Array.getElem?_eq_some_iff.1 ho).1; omega
    exact ih k hki ops[k] (Array.getElem?_eq_getElem hks) (hD k _ (Array.getElem?_eq_getElem hks) (he k hk)) j h

theorem eval_congr {σ τ : PS} {x : Operand} (h : ∀ t, x = .tmp t → τ.tmps[t]? = σ.tmps[t]?) : τ.eval x = σ.eval x := by
 cases x with
 | tmp t => simp only [PS.eval, List.getD_eq_getElem?_getD, h t rfl]
 | _ => rfl

theorem seenBy_congr {o : Oper} {b : Bool} {ρ ρ' : Operand → PV} {x : Operand} (h : ρ' x = ρ x) : seenBy o b ρ' x = seenBy o b ρ x := by
 unfold seenBy
 split
 ·exact h
 ·rw [h]

def dstW (o : Oper) (v : PV) : List (Nat × PV) := match o.dst with | some d => [(d, v)] | none => []
theorem put_eq (σ : PS) (o : Oper) (v : PV) (h : Hp) : σ.put o.dst v h = ⟨wrL σ.tmps (dstW o v), h⟩ := by
 unfold PS.put dstW
 cases o.dst <;> rfl

structure Inst (P : Program) (Y : YS) (ops : Array Oper) (i : Nat) (σ σ' : PS) (f : Foot) (Wt : List (Nat × PV)) (Wh : Wr) : Prop where
 tm : σ'.tmps = wrL σ.tmps Wt
 hp : σ'.heap = wr σ.heap Wh
 dst : ∀ o, ops[i]? = some o → ∀ x v, (x, v) ∈ Wt → o.dst = some x
 foot : ∀ x o, (x, o) ∈ Wh → x ∈ f.1 ∧ f.2 = true
 same : ∀ o τ, ops[i]? = some o → (∀ t ∈ o.looksAt ops, τ.tmps[t]? = σ.tmps[t]?) → (∀ x ∈ f.1, τ.heap x = σ.heap x) → OpStep P Y ops o τ ⟨wrL τ.tmps Wt, wr τ.heap Wh⟩ Wh f

theorem looks_operand {ops : Array Oper} {o : Oper} {t : Nat} (h : Operand.tmp t ∈ o.op.operands) : t ∈ o.looksAt ops := by
 unfold Oper.looksAt
 refine List.mem_append_left _ (List.mem_filterMap.2 ⟨.tmp t, by simpa using h, rfl⟩)

theorem StepAt.inst {ops : Array Oper} {i : Nat} {σ σ' : PS} {f : Foot} (h : StepAt P Y ops i σ σ' f) : ∃ Wt Wh, Inst P Y ops i σ σ' f Wt Wh := by
 obtain ⟨o, W, h1, b, v, rid, h2, h3, h4, h5⟩ := h
 have gsame : ∀ τ : PS, (∀ t ∈ o.looksAt ops, τ.tmps[t]? = σ.tmps[t]?) → guardO ops o τ = some b := by
  intro τ ht
  rw [← h2]
  unfold guardO
  cases hg : o.guard with
  | none => rfl
  | some g =>
   obtain ⟨j, want⟩ := g
   simp only
   cases hd : (ops[j]?).bind (·.dst) with
   | none => rfl
   | some d =>
    have : d ∈ o.looksAt ops := by
     unfold Oper.looksAt
     refine List.mem_append_right _ ?_
     rw [hg]; simp [hd]
    simp only [ht d this]
 have hdst : ∀ o', ops[i]? = some o' → ∀ x v', (x, v') ∈ dstW o (condW o b v) → o'.dst = some x := by
  intro o' ho' x v' hx
  rw [h1] at ho'; cases ho'
  unfold dstW at hx
  split at hx
  ·rename_i d hd; simp at hx; rw [hd, hx.1]
  ·cases hx
 cases b with
 | false =>
  have e := h4 rfl
  subst e
  refine ⟨dstW o (condW o false v), [], ?_, ?_, hdst, fun x o hx => (by cases hx), ?_⟩
  ·rw [h5, put_eq]
  ·rw [h5, put_eq]
  ·intro o' τ ho' ht _
   rw [h1] at ho'; cases ho'
   exact ⟨false, v, rid, gsame τ ht, fun e => (by cases e), fun _ => rfl, by rw [put_eq]⟩
 | true =>
  obtain ⟨e2, e3⟩ := opval_loc (h3 rfl)
  refine ⟨dstW o (condW o true v), W, ?_, ?_, hdst, e2, ?_⟩
  ·rw [h5, put_eq]
  ·rw [h5, put_eq]
  ·intro o' τ ho' ht hx
   rw [h1] at ho'; cases ho'
   exact ⟨true, v, rid, gsame τ ht, fun _ => e3 (seenBy o true τ.eval) τ.heap (fun x hx => seenBy_congr (eval_congr fun t e => ht t (looks_operand (e ▸ hx)))) hx, fun e => (by cases e), by rw [put_eq]⟩

theorem pops_chain {ops : Array Oper} {K : PS → List Foot → Prop} : ∀ (m k : Nat) (σ : PS) (fs : List Foot), fs.length = k → pops P Y ops (List.range' k m) σ fs K →
  ∃ (st : Nat → PS) (fs' : List Foot) (Wt : Nat → List (Nat × PV)) (Wh : Nat → Wr), st k = σ ∧ fs'.length = k + m ∧ fs'.take k = fs ∧ K (st (k + m)) fs' ∧
   ∀ i, k ≤ i → i < k + m → Inst P Y ops i (st i) (st (i + 1)) (fs'.getD i ([], false)) (Wt i) (Wh i)
 | 0, k, σ, fs, hk, h => ⟨fun _ => σ, fs, fun _ => [], fun _ => [], rfl, by omega, by rw [List.take_of_length_le (by omega)], h, fun i h1 h2 => by omega⟩
 | m + 1, k, σ, fs, hk, h => by
  rw [List.range'_succ] at h
  obtain ⟨σ', f, hs, hl⟩ := h
  obtain ⟨Wt0, Wh0, hi⟩ := hs.inst
  obtain ⟨st, fs', Wt, Wh, a1, a2, a3, a4, a5⟩ := pops_chain m (k + 1) σ' (fs ++ [f]) (by simp [hk]) hl
  have hf : fs'.getD k ([], false) = f := by
   have : (fs'.take (k + 1))[k]? = some f := by rw [a3]; simp [← hk]
   rw [List.getElem?_take, if_pos (by omega)] at this
   rw [List.getD_eq_getElem?_getD, this]; rfl
  refine ⟨fun j => if j = k then σ else st j, fs', fun j => if j = k then Wt0 else Wt j, fun j => if j = k then Wh0 else Wh j, by simp, by omega, ?_, ?_, fun i h1 h2 => ?_⟩
  ·have : (fs'.take (k + 1)).take k = fs := by rw [a3]; rw [List.take_append_of_le_length (by omega), List.take_of_length_le (by omega)]
   rwa [List.take_take, Nat.min_eq_left (by omega)] at this
  ·simp only [show ¬ k + (m + 1) = k by omega, if_false]
   rw [show k + (m + 1) = k + 1 + m by omega]; exact a4
  ·by_cases e : i = k
   ·subst e
    simp only [if_true, show ¬ i + 1 = i by omega, if_false, hf, a1]
    exact hi
   ·simp only [e, if_false, show ¬ i + 1 = k by omega]
    exact a5 i (by omega) (by omega)

theorem apart_symm {ops : Array Oper} {x y : Oper} (h : x.apart ops y = true) : y.apart ops x = true := by
 obtain ⟨h1, h2, h3⟩ := Oper.apart_spec h
 unfold Oper.apart
 simp only [Bool.and_eq_true]
 refine ⟨?_, ?_⟩
 ·cases hd : y.dst with
  | none => rfl
  | some d =>
   simp only [Bool.and_eq_true, Bool.not_eq_true', bne_iff_ne, ne_eq]
   refine ⟨?_, fun e => h2 d e hd⟩
   have := h3 d hd
   simpa using this
 ·cases hd : x.dst with
  | none => rfl
  | some d =>
   have := h1 d hd
   simpa using this

theorem draw_sound {r : Option Nat} {n : Nat} (hY : YOk P J Y) (hst : Stable C.w0.heap.size C.E J) {ops : Array Oper} {Q : Exit → Act → World → Prop} {σ : PS} {a : Act} {K : PS → Prop}
  (h : pops P Y ops (List.range ops.size) σ [] fun σ' fs => drawOk ops fs = true ∧ K σ') (hR : R P C J σ a w) (hK : ∀ σ' a' w', K σ' → R P C J σ' a' w' → Q .normal a' w') :
  wpAnyIn (Fr r) n P .any ops Q ops.size (Array.replicate ops.size false) a w := by
 rw [List.range_eq_range'] at h
 obtain ⟨st, fs, Wt, Wh, s1, s2, _, ⟨hok, hKn⟩, hinst⟩ := pops_chain ops.size 0 σ [] rfl h
 simp only [Nat.zero_add] at s2 hKn hinst
 have hsti : ∀ i, i ≤ ops.size → st i = ⟨runW Wt (fun _ => true) i σ.tmps, runH Wh (fun _ => true) i σ.heap⟩ := by
  intro i
  induction i with
  | zero => intro _; rw [s1]; rfl
  | succ i ih =>
   intro hi
   have I := hinst i (Nat.zero_le _) (by omega)
   have e := ih (by omega)
   have e1 := I.tm; have e2 := I.hp
   rw [e] at e1 e2
   rw [runW_succ, runH_succ]
   simp only [if_true]
   rw [← e1, ← e2]
 simp only [drawOk, List.all_eq_true, List.mem_range, Bool.and_eq_true] at hok
 have hlt : ∀ i o, ops[i]? = some o → ∀ e ∈ edgesO o, e < i := by
  intro i o ho e he
  have := (hok i (Array.getElem?_eq_some_iff.1 ho).1).1
  rw [ho] at this
  simp only [List.all_eq_true, decide_eq_true_eq] at this
  exact this e he
 -- two that are not ordered do not meet
 have hpair : ∀ i j oi oj, j < i → ops[i]? = some oi → ops[j]? = some oj → ((bitsO ops).getD i 0).testBit j = false → oi.apart ops oj = true ∧ heapApart (fs.getD i ([], false)) (fs.getD j ([], false)) = true := by
  intro i j oi oj hji hi hj hb
  have := (hok i (Array.getElem?_eq_some_iff.1 hi).1).2 j hji
  unfold pairOk at this
  rw [hb, hi, hj] at this
  simpa using this
 let τ (D : Nat → Bool) : PS := ⟨runW Wt D ops.size σ.tmps, runH Wh D ops.size σ.heap⟩
 have key : ∀ (D : Nat → Bool) (i : Nat) (o : Oper), ops[i]? = some o → D i = false → (∀ i o, ops[i]? = some o → D i = true → ∀ e ∈ edgesO o, D e = true) → (∀ e ∈ edgesO o, D e = true) →
   OpStep P Y ops o (τ D) (τ fun j => D j || j == i) (Wh i) (fs.getD i ([], false)) := by
  intro D i o ho hDi hcl hready
  have hi := (Array.getElem?_eq_some_iff.1 ho).1
  have I := hinst i (Nat.zero_le _) hi
  -- before i: in D; behind i: not in D, where they meet
  have hmeet : ∀ j oj, ops[j]? = some oj → j ≠ i → (oi_meets : (o.apart ops oj = false ∨ heapApart (fs.getD i ([], false)) (fs.getD j ([], false)) = false ∨ heapApart (fs.getD j ([], false)) (fs.getD i ([], false)) = false)) → D j = decide (j < i) := by
   intro j oj hj hne hm
   by_cases hji : j < i
   ·have hb : ((bitsO ops).getD i 0).testBit j = true := by
     cases hbb : ((bitsO ops).getD i 0).testBit j with
     | true => rfl
     | false =>
      obtain ⟨p1, p2⟩ := hpair i j o oj hji ho hj hbb
      rcases hm with hm | hm | hm
      ·rw [p1] at hm; cases hm
      ·rw [p2] at hm; cases hm
      ·exfalso
       unfold heapApart at p2 hm
       simp only [Bool.or_eq_true, Bool.and_eq_true, Bool.not_eq_true', List.all_eq_true, Bool.or_eq_false_iff, Bool.and_eq_false_iff, Bool.not_eq_false'] at p2 hm
       rcases p2 with ⟨q1, q2⟩ | q
       ·rw [q1, q2] at hm; simp at hm
       ·obtain ⟨_, hm⟩ := hm
        rw [List.all_eq_false] at hm
        obtain ⟨x, hx, hx2⟩ := hm
        simp at hx2
        have := q x hx2
        simp at this
        exact this hx
    rw [bits_closed hcl hlt i o ho hready j hb]; simp [hji]
   ·have hij : i < j := by omega
    cases hDj : D j with
    | false => simp [hji]
    | true =>
     have hb : ((bitsO ops).getD j 0).testBit i = true := by
      cases hbb : ((bitsO ops).getD j 0).testBit i with
      | true => rfl
      | false =>
       obtain ⟨p1, p2⟩ := hpair j i oj o hij hj ho hbb
       rcases hm with hm | hm | hm
       ·rw [apart_symm p1] at hm; cases hm
       ·exfalso
        unfold heapApart at p2 hm
        simp only [Bool.or_eq_true, Bool.and_eq_true, Bool.not_eq_true', List.all_eq_true, Bool.or_eq_false_iff, Bool.and_eq_false_iff, Bool.not_eq_false'] at p2 hm
        rcases p2 with ⟨q1, q2⟩ | q
        ·rw [q1, q2] at hm; simp at hm
        ·obtain ⟨_, hm⟩ := hm
         rw [List.all_eq_false] at hm
         obtain ⟨x, hx, hx2⟩ := hm
         simp at hx2
         have := q x hx2
         simp at this
         exact this hx
       ·rw [p2] at hm; cases hm
     have := bits_closed hcl hlt j oj hj (hcl j oj hj hDj) i hb
     rw [hDi] at this; cases this
  have hops : ∀ j, j < ops.size → ∃ oj, ops[j]? = some oj := fun j hj => ⟨ops[j], Array.getElem?_eq_getElem hj⟩
  have htm : ∀ t ∈ o.looksAt ops, (τ D).tmps[t]? = (st i).tmps[t]? := by
   intro t ht
   rw [hsti i (by omega)]
   show (runW Wt D ops.size σ.tmps)[t]? = (runW Wt (fun _ => true) i σ.tmps)[t]?
   have hcg : ∀ j, j < ops.size → (∃ v, (t, v) ∈ Wt j) → D j = decide (j < i) := by
    intro j hj hjv
    obtain ⟨v, hv⟩ := hjv
    obtain ⟨oj, hoj⟩ := hops j hj
    have hd := (hinst j (Nat.zero_le _) hj).dst oj hoj t v hv
    by_cases e : j = i
    ·subst e; simp [hDi]
    ·refine hmeet j oj hoj e (.inl ?_)
     cases hap : o.apart ops oj with
     | false => rfl
     | true => exact absurd ht ((Oper.apart_spec hap).2.2 t hd)
   rw [runW_congr (p' := fun j => decide (j < i)) ops.size hcg]
   rw [runW_none (k := i) _ (by omega) (fun j a b => by simp; omega)]
   exact runW_congr i fun j hj _ => by simp [hj]
  have hhp : ∀ x ∈ (fs.getD i ([], false)).1, (τ D).heap x = (st i).heap x := by
   intro x hx
   rw [hsti i (by omega)]
   show runH Wh D ops.size σ.heap x = runH Wh (fun _ => true) i σ.heap x
   have hcg : ∀ j, j < ops.size → (∃ v, (x, v) ∈ Wh j) → D j = decide (j < i) := by
    intro j hj hjv
    obtain ⟨v, hv⟩ := hjv
    obtain ⟨oj, hoj⟩ := hops j hj
    obtain ⟨f1, f2⟩ := (hinst j (Nat.zero_le _) hj).foot x v hv
    by_cases e : j = i
    ·subst e; simp [hDi]
    ·refine hmeet j oj hoj e (.inr (.inl ?_))
     unfold heapApart
     rw [f2]
     simp only [Bool.not_true, Bool.and_false, Bool.false_or]
     rw [List.all_eq_false]
     exact ⟨x, hx, by simpa using f1⟩
   rw [runH_congr (p' := fun j => decide (j < i)) ops.size hcg]
   rw [runH_none (k := i) _ (by omega) (fun j a b => by simp; omega)]
   exact runH_congr i fun j hj _ => by simp [hj]
  have hstep := I.same o (τ D) ho htm hhp
  have e1 : runW Wt (fun j => D j || j == i) ops.size σ.tmps = wrL (runW Wt D ops.size σ.tmps) (Wt i) := by
   refine runW_insert hi hDi fun j hij hj hDj x v v' hv hv' => ?_
   obtain ⟨oj, hoj⟩ := hops j hj
   have d1 := I.dst o ho x v hv
   have d2 := (hinst j (Nat.zero_le _) hj).dst oj hoj x v' hv'
   have := hmeet j oj hoj (by omega) (.inl (by
    cases hap : o.apart ops oj with
    | false => rfl
    | true => exact absurd d2 ((Oper.apart_spec hap).2.1 x d1)))
   rw [hDj] at this
   exact absurd (show j < i by simpa using this.symm) (by omega)
  have e2 : runH Wh (fun j => D j || j == i) ops.size σ.heap = wr (runH Wh D ops.size σ.heap) (Wh i) := by
   refine runH_insert hi hDi fun j hij hj hDj x v v' hv hv' => ?_
   obtain ⟨oj, hoj⟩ := hops j hj
   obtain ⟨f1, f2⟩ := I.foot x v hv
   obtain ⟨g1, g2⟩ := (hinst j (Nat.zero_le _) hj).foot x v' hv'
   have := hmeet j oj hoj (by omega) (.inr (.inl (by
    unfold heapApart
    rw [f2, g2]
    simp only [Bool.not_true, Bool.and_false, Bool.false_or]
    rw [List.all_eq_false]
    exact ⟨x, f1, by simpa using g1⟩)))
   rw [hDj] at this
   exact absurd (show j < i by simpa using this.symm) (by omega)
  show OpStep P Y ops o (τ D) ⟨runW Wt (fun j => D j || j == i) ops.size σ.tmps, runH Wh (fun j => D j || j == i) ops.size σ.heap⟩ (Wh i) (fs.getD i ([], false))
  rw [e1, e2]
  exact hstep
 -- the walk over the sets
 have walk : ∀ (fuel : Nat) (listed : Array Bool) (a : Act) (w : World), listed.size = ops.size → (listed.toList.filter (!·)).length ≤ fuel →
   (∀ i o, ops[i]? = some o → listed.getD i false = true → ∀ e ∈ edgesO o, listed.getD e false = true) → R P C J (τ fun j => listed.getD j false) a w → wpAnyIn (Fr r) n P .any ops Q fuel listed a w := by
  have hall : ∀ (listed : Array Bool) (a : Act) (w : World), listed.size = ops.size → (∀ i, i < ops.size → listed.getD i false = true) → R P C J (τ fun j => listed.getD j false) a w → Q .normal a w := by
   intro listed a w hsz hl hR'
   refine hK _ a w hKn ?_
   have e : τ (fun j => listed.getD j false) = st ops.size := by
    rw [hsti _ (Nat.le_refl _)]
    show (⟨_, _⟩ : PS) = ⟨_, _⟩
    have t1 : runW Wt (fun j => listed.getD j false) ops.size σ.tmps = runW Wt (fun _ => true) ops.size σ.tmps := by
     apply List.ext_getElem?; intro x
     exact runW_congr _ fun j hj _ => hl j hj
    have t2 : runH Wh (fun j => listed.getD j false) ops.size σ.heap = runH Wh (fun _ => true) ops.size σ.heap := by
     funext x
     exact runH_congr _ fun j hj _ => hl j hj
    rw [t1, t2]
   rw [← e]; exact hR'
  have hready : ∀ (listed : Array Bool), listed.size = ops.size → Region.ready .any ops listed = [] → ∀ i, i < ops.size → listed.getD i false = true := by
   intro listed hsz hr i
   induction i using Nat.strongRecOn with
   | _ i ih =>
    intro hi
    cases hli : listed.getD i false with
    | true => rfl
    | false =>
     exfalso
     have hmem : i ∈ Region.ready .any ops listed := by
      unfold Region.ready
      rw [List.mem_filter]
      refine ⟨List.mem_range.2 hi, ?_⟩
      have ho : ops[i]? = some ops[i] := Array.getElem?_eq_getElem hi
      have hli' : listed.getD i true = false := by
       have : i < listed.size := by omega
       simp [Array.getD, this] at hli ⊢; exact hli
      rw [hli', ho]
      simp only [Bool.not_false, Option.map_some, Option.getD_some, Bool.true_and]
      rw [← Array.all_toList, List.all_eq_true]
      intro e he
      cases hbe : Region.binds .any e with
      | false => rfl
      | true =>
       have hmem : e.on ∈ edgesO ops[i] := List.mem_map.2 ⟨e, List.mem_filter.2 ⟨he, hbe⟩, rfl⟩
       have hlt' := hlt i _ ho e.on hmem
       simp [ih e.on hlt' (by omega)]
     rw [hr] at hmem; cases hmem
  intro fuel
  induction fuel with
  | zero =>
   intro listed a w hsz hcnt hcl hR'
   have hl : ∀ i, i < ops.size → listed.getD i false = true := by
    intro i hi
    have hlt : i < listed.size := by omega
    have h0 : (listed.toList.filter (!·)) = [] := List.eq_nil_of_length_eq_zero (by omega)
    rw [List.filter_eq_nil_iff] at h0
    have := h0 listed[i] (by simp)
    simp [Array.getD, hlt]; simpa using this
   refine ⟨?_, hall listed a w hsz hl hR'⟩
   unfold Region.ready
   rw [List.filter_eq_nil_iff]
   intro i hi
   have hi' := List.mem_range.1 hi
   have := hl i hi'
   have hlt : i < listed.size := by omega
   simp [Array.getD, hlt] at this ⊢
   simp [this]
  | succ fuel ih =>
   intro listed a w hsz hcnt hcl hR'
   refine ⟨fun hr => hall listed a w hsz (hready listed hsz hr) hR', fun i hi => ?_⟩
   unfold Region.ready at hi
   rw [List.mem_filter] at hi
   obtain ⟨hi, hc⟩ := hi
   have hi := List.mem_range.1 hi
   have ho : ops[i]? = some ops[i] := Array.getElem?_eq_getElem hi
   rw [ho] at hc
   simp only [Option.map_some, Option.getD_some, Bool.and_eq_true, Bool.not_eq_true'] at hc
   obtain ⟨hli, hedge⟩ := hc
   have hlt' : i < listed.size := by omega
   have hDi : listed.getD i false = false := by simp [Array.getD, hlt'] at hli ⊢; exact hli
   have hrdy : ∀ e ∈ edgesO ops[i], listed.getD e false = true := by
    intro e he
    obtain ⟨ed, h1, rfl⟩ := List.mem_map.1 he
    obtain ⟨h2, h3⟩ := List.mem_filter.1 h1
    rw [← Array.all_toList, List.all_eq_true] at hedge
    have := hedge ed h2
    rw [h3] at this
    simpa using this
   have hst' := key (fun j => listed.getD j false) i ops[i] ho hDi hcl hrdy
   have hset : ∀ j, (listed.setIfInBounds i true).getD j false = (listed.getD j false || j == i) := by
    intro j
    by_cases e : j = i
    ·subst e; simp [hlt']
    ·simp [Array.getElem?_setIfInBounds_ne (Ne.symm e), e]
   unfold wpOpIn
   rw [ho]
   refine step_sim hY hst hst' hR' fun a' w' hR2 => ih _ a' w' (by simpa using hsz) ?_ ?_ ?_
   ·-- one fewer
    have e1 : (listed.setIfInBounds i true).toList = listed.toList.take i ++ true :: listed.toList.drop (i + 1) := by
     rw [Array.toList_setIfInBounds, List.set_eq_take_append_cons_drop, if_pos (by simpa using hlt')]
    have e2 : listed.toList = listed.toList.take i ++ false :: listed.toList.drop (i + 1) := by
     have hg : listed.toList[i]'(by simpa using hlt') = false := by simp [Array.getD, hlt'] at hDi; simpa using hDi
     rw [← hg, ← List.drop_eq_getElem_cons, List.take_append_drop]
    rw [e1]
    rw [e2] at hcnt
    simp only [List.filter_append, List.length_append, List.filter_cons, Bool.not_true, Bool.false_eq_true, if_false, Bool.not_false, if_true, List.length_cons] at hcnt ⊢
    omega
   ·intro j oj hoj hlj e he
    rw [hset] at hlj ⊢
    simp only [Bool.or_eq_true, beq_iff_eq] at hlj ⊢
    rcases hlj with hlj | rfl
    ·exact .inl (hcl j oj hoj hlj e he)
    ·rw [ho] at hoj; cases hoj
     exact .inl (hrdy e he)
   ·have e : (fun j => (listed.setIfInBounds i true).getD j false) = (fun j => listed.getD j false || j == i) := funext hset
    rw [e]; exact hR2
 refine walk ops.size _ a w (by simp) ?_ (fun i o ho hl => ?_) ?_
 ·exact Nat.le_trans (List.length_filter_le _ _) (by simp)
 ·simp [Array.getD] at hl
 ·have e : τ (fun j => (Array.replicate ops.size false).getD j false) = σ := by
   have t : ∀ {α : Type} (Ws : Nat → List (Nat × α)) (l : List α), runW Ws (fun j => (Array.replicate ops.size false).getD j false) ops.size l = l := by
    intro α Ws l
    rw [runW_none (k := 0) _ (Nat.zero_le _) (fun j _ _ => by simp [Array.getD])]
    rfl
   have t' : runH Wh (fun j => (Array.replicate ops.size false).getD j false) ops.size σ.heap = σ.heap := by
    rw [runH_none (k := 0) _ (Nat.zero_le _) (fun j _ _ => by simp [Array.getD])]
    rfl
   show (⟨_, _⟩ : PS) = σ
   rw [t, t']
  rw [e]; exact hR

end Go.Pm

/- Part QmO. -/
namespace Go.Pm
open Go Go.RowKit

variable {P : Program} {C : Cx} {F F' : Fz} {φ φ' : Nat → Nat × Nat} {h h' : Hp} {w w' : World} {J : Gh}

def Weak (P : Program) (k : Nat) (s s' : PS) : Prop := ∀ C J a w, Stable C.w0.heap.size C.E J → (∀ id, k ≤ id → C.h0 id = .res) → R P C J s a w → R P C J s' a w
theorem Weak.refl (k : Nat) (s : PS) : Weak P k s s := fun _ _ _ _ _ _ h => h
theorem Weak.trans {k : Nat} {s s' s'' : PS} (h : Weak P k s s') (h' : Weak P k s' s'') : Weak P k s s'' := fun C J a w hst hk r => h' C J a w hst hk (h C J a w hst hk r)

def seqQ (K : PS → Prop) (Q : Exit → PS → Prop) : Exit → PS → Prop
 | .normal, s => K s
 | e, s => Q e s
def blockQ (id : Nat) (Q : Exit → PS → Prop) : Exit → PS → Prop
 | .exit id', s => if id' = id then Q .normal s else Q (.exit id') s
 | e, s => Q e s

def scopeQ (Q : Exit → PS → Prop) : Exit → PS → Prop
 | .goto _, _ => False
 | e, s => Q e s

def isJump : Exit → Bool
 | .ret | .exit _ | .goto _ => true
 | _ => false

def Iter (P : Program) (f : FuncId) (pre caps : List TV) (xs : List (List TV)) : Prop :=
 FnOk P f ∧ ∀ (m : Nat) (stop : Bool), m ≤ xs.length → (stop = false → m = xs.length) → (stop = true → 0 < m) →
  ∀ (J : Gh) (l : Nat) (w : World) (F : Fz) (G : Nat → Prop) (vs us : List Value), Stable w.heap.size G J → YOk P J ⟨l, xs, m, stop⟩ → (∀ a u, F a = some u → look w a = some u) → (∀ b, G b → b < w.heap.size) → GlobOk F →
   RepL F pre vs → RepL F caps us → J 0 F G w →
   Calls P f (vs ++ .func (.yield l) #[] #[] :: us).toArray w fun e w' => ∃ u F' G', e = .returned u ∧ J m F' G' w' ∧ F.le F' ∧ (∀ a u, F' a = some u → look w' a = some u) ∧ Bel G w w'

structure PX where
 Y : YS
 k : Nat
 inr : Bool
def noY : YS := ⟨0, [], 0, false⟩
theorem noY_ok : YOk P J noY := fun n F G w us k as h => by cases h

def setPs (tm : List PV) (ps : List Tmp) (xs : List TV) : List PV := (ps.zip xs).foldl (fun t p => t.set p.1 (.t p.2)) tm

def pwp (P : Program) (X : PX) : Code → (Exit → PS → Prop) → PS → Prop
 | .skip, Q => fun σ => Q .normal σ
 | .label _, Q => fun σ => Q .normal σ
 | .region _ ops draw, Q => pregion P X.Y ops draw (Q .normal)
 | .seq a b, Q => pwp P X a (seqQ (pwp P X b Q) Q)
 | .cond c a b, Q => fun σ => ∃ t, σ.eval c = .t (.bool t) ∧ (t = true → pwp P X a Q σ) ∧ (t = false → pwp P X b Q σ)
 | .block id c, Q => pwp P X c (blockQ id Q)
 | .scope c, Q => pwp P X c (scopeQ Q)
 | .loop c, Q => fun σ => ∃ (A : Type) (S : A → PS) (μ : A → Nat) (x0 : A), Weak P X.k σ (S x0) ∧
   ∀ x, pwp P X c (seqQ (fun s' => ∃ x', Weak P X.k s' (S x') ∧ μ x' < μ x) Q) (S x)
 | .exit id, Q => fun σ => Q (.exit id) σ
 | .ret, Q => fun σ => Q .ret σ
 | .rangeFunc g ps assign body, Q => fun σ => X.inr = false ∧ ∃ (f : FuncId) (pre caps : List TV) (xs : List (List TV)) (T : List PV) (S : Nat → Hp) (k m : Nat) (stop : Bool) (e : Exit),
   Weak P X.k σ ⟨T, S 0⟩ ∧ (⟨T, S 0⟩ : PS).eval g = .t (.fn f pre caps) ∧ Iter P f pre caps xs ∧ (∀ x ∈ xs, x.length = ps.size) ∧ m ≤ xs.length ∧ (stop = false → m = xs.length ∧ e = .normal) ∧ (stop = true → 0 < m ∧ isJump e = true) ∧
   (∀ i id, k ≤ id → S i id = .res) ∧
   (∀ i x, i < m → xs[i]? = some x → pwp P ⟨X.Y, k, true⟩ assign (seqQ (pwp P ⟨X.Y, k, true⟩ body fun e' s' => (e' = if stop = true ∧ i + 1 = m then e else .normal) ∧ Weak P k ⟨[], s'.heap⟩ ⟨[], S (i + 1)⟩) fun _ _ => False) ⟨setPs T ps.toList x, S i⟩) ∧
   Q e ⟨T, S m⟩
 | _, _ => fun _ => False

def liftQ (P : Program) (C : Cx) (J : Gh) (Q : Exit → PS → Prop) : Exit → Act → World → Prop := fun e a w => ∃ s, Q e s ∧ R P C J s a w

/-! ### Surroundings -/
def dataObj : Obj → Bool | .cells _ _ _ => true | .map _ _ => true | _ => false
theorem own_cells (H : RH P C F φ h w) {b : Nat} (ho : own φ h b) : ∃ o, w.heap[b]? = some o ∧ dataObj o = true := by
 obtain ⟨id, li, e⟩ := ho
 subst e
 have hob := H.objs id
 cases hh : h id with
 | box c => rw [hh] at hob; obtain ⟨us, ty, h1, _⟩ := hob; exact ⟨_, h1, rfl⟩
 | ro c => rw [hh] at hob; obtain ⟨us, ty, h1, _⟩ := hob; exact ⟨_, h1, rfl⟩
 | grow v c e sz => rw [hh] at hob; obtain ⟨us, h1, _⟩ := hob; exact ⟨_, h1, rfl⟩
 | gro v c e sz => rw [hh] at hob; obtain ⟨us, h1, _⟩ := hob; exact ⟨_, h1, rfl⟩
 | mp t m => rw [hh] at hob; obtain ⟨es, clock, ents, h1, _⟩ := hob; exact ⟨_, h1, rfl⟩
 | mpo t m => rw [hh] at hob; obtain ⟨es, clock, ents, h1, _⟩ := hob; exact ⟨_, h1, rfl⟩
 | mfz t m => rw [hh] at hob; obtain ⟨⟨es, clock, h1⟩, _⟩ := hob; exact ⟨_, h1, rfl⟩
 | tok n e => rw [hh] at hob li; obtain ⟨us, h1, _⟩ := hob (by simpa [PO.live] using li); exact ⟨_, h1, rfl⟩
 | cnt => rw [hh] at li; cases li
 | res => rw [hh] at li; cases li
theorem F_cells (H : RH P C F φ h w) {a : Addr} {u : Value} (hF : F a = some u) : ∃ o, w.heap[a.block]? = some o ∧ dataObj o = true := by
 have hc := H.agree _ _ hF
 unfold look at hc
 split at hc
 ·rename_i hb; exact ⟨_, hb, rfl⟩
 ·rename_i hb; exact ⟨_, hb, rfl⟩
 ·cases hc

theorem RH.putObj (H : RH P C F φ h w) {D : Nat} {o o' : Obj} (hD : w.heap[D]? = some o) (hn : dataObj o = false) (hC : C.w0.heap.size ≤ D ∨ C.E D) : RH P C F φ h (w.putObj D o') := by
 have hno : ∀ b, own φ h b → b ≠ D := by
  rintro b ho rfl
  obtain ⟨o2, h1, h2⟩ := own_cells H ho
  rw [hD] at h1; cases h1; rw [hn] at h2; cases h2
 refine ⟨fun a u hu => ?_, H.more, H.news, fun id => ?_, H.inj, H.high, ⟨H.bel.os, H.bel.tape, H.bel.output, by simpa using H.bel.size, fun k hk he => ?_⟩, H.step, H.glob⟩
 ·obtain ⟨o2, h1, h2⟩ := F_cells H hu
  have hne : a.block ≠ D := by rintro e; rw [e, hD] at h1; cases h1; rw [hn] at h2; cases h2
  rw [look_same (World.putObj_heap_other hne)]; exact H.agree _ _ hu
 ·exact (H.objs id).step (fun _ => rfl) (HStep.refl _ _) (Fz.le_refl _) (fun _ _ _ => rfl) (fun li => World.putObj_heap_other (hno _ ⟨id, li, rfl⟩))
 ·have hne : k ≠ D := by
   rintro rfl
   rcases hC with h3 | h3
   ·omega
   ·exact he h3
  rw [World.putObj_heap_other hne]; exact H.bel.block k hk he

theorem RTm.setPs {ps : List PV} {us : Array Value} (hr : RTm F φ h ps us) : ∀ (ts : List Tmp) (xs : List TV) (vs : List Value), RepL F xs vs → RTm F φ h (setPs ps ts xs) ((ts.zip vs).foldl (fun t p => t.setIfInBounds p.1 p.2) us)
 | [], xs, vs, _ => by simpa [Pm.setPs] using hr
 | t :: ts, [], vs, hx => by
  have : vs = [] := List.eq_nil_of_length_eq_zero (by simpa using hx.1)
  subst this; simpa [Pm.setPs] using hr
 | t :: ts, x :: xs, [], hx => by have := hx.1; simp at this
 | t :: ts, x :: xs, v :: vs, hx => by
  have h1 : RepT F x v := hx.2 0 x v rfl rfl
  have h2 : RepL F xs vs := ⟨by have := hx.1; simpa using this, fun i c u a b => hx.2 (i + 1) c u (by simpa using a) (by simpa using b)⟩
  exact RTm.setPs (hr.put t (v := .t x) (u := v) h1) ts xs vs h2

end Go.Pm

/- Part QmP. -/
namespace Go.Pm
open Go Go.RowKit

variable {P : Program} {C : Cx} {F F' : Fz} {φ φ' : Nat → Nat × Nat} {h h' : Hp} {w w' : World} {J : Gh}

theorem Stable.mono {B B' : Nat} {E E' : Nat → Prop} {J : Gh} (hst : Stable B E J) (hB : B ≤ B') (hE : ∀ b, E' b → B ≤ b ∨ E b) : Stable B' E' J := by
 intro i F G w F' w' hJ hF hag hnew hos htape hout hsz hb
 refine hst i F G w F' w' hJ hF hag (fun a u h1 h2 => ?_) hos htape hout hsz (fun b hlt hc => hb b hlt ?_)
 ·obtain ⟨h3, h4⟩ := hnew a u h1 h2
  refine ⟨?_, h4⟩
  rcases h3 with h3 | h3
  ·exact .inl (Nat.le_trans hB h3)
  ·exact hE _ h3
 ·rcases hc with hc | ⟨hc1, hc2⟩
  ·exact .inl hc
  ·refine .inr ⟨Nat.lt_of_lt_of_le hc1 hB, fun he => ?_⟩
   rcases hE b he with h3 | h3
   ·omega
   ·exact hc2 h3
def JRound (J : Gh) (l D : Nat) (rec : Loop) : Gh := fun i F G w => ∃ Gj : Nat → Prop, G = (fun b => b = l ∨ b = D ∨ Gj b) ∧ w.heap[l]? = some (.loop rec) ∧ w.heap[D]? = some (.deferred (some [])) ∧ J i F Gj w ∧ ¬ Gj l ∧ ¬ Gj D
theorem JRound.stable {B : Nat} {E : Nat → Prop} (hst : Stable B E J) (l D : Nat) (rec : Loop) : Stable B E (JRound J l D rec) := by
 rintro i F G w F' w' ⟨Gj, rfl, h1, h2, h3, h4, h5⟩ hF hag hnew hos htape hout hsz hb
 exact ⟨Gj, rfl, (hb l (lt_of_block h1) (.inl (.inl rfl))).trans h1, (hb D (lt_of_block h2) (.inl (.inr (.inl rfl)))).trans h2,
  hst i F Gj w F' w' h3 hF hag (fun a u e1 e2 => ⟨(hnew a u e1 e2).1, fun hg => (hnew a u e1 e2).2 (.inr (.inr hg))⟩) hos htape hout hsz (fun b hlt hc => hb b hlt (hc.imp (fun hg => .inr (.inr hg)) id)), h4, h5⟩
theorem JRound.yields {Y : YS} (hY : YOk P J Y) (l D : Nat) (rec : Loop) : YOk P (JRound J l D rec) Y := by
 rintro n F G w us k as hk hx ⟨Gj, rfl, h1, h2, h3, h4, h5⟩ hag hG hus
 obtain ⟨fn, tmps, assign, body, hy1, hy2⟩ := hY n F Gj w us k as hk hx h3 hag (fun b hb => hG b (.inr (.inr hb))) hus
 refine ⟨fn, tmps, assign, body, hy1, hy2.mono fun e w' hpost => ?_⟩
 obtain ⟨F', G', rfl, p1, p2, p3, p4, p5, p6, p7⟩ := hpost
 have hl := lt_of_block h1
 have hD := lt_of_block h2
 have hsz := p5.size
 refine ⟨F', fun b => b = l ∨ b = D ∨ G' b, rfl, ⟨G', rfl, (p5.block l hl h4).trans h1, (p5.block D hD h5).trans h2, p1, fun hg => ?_, fun hg => ?_⟩, p2, p3, fun a u a1 a2 => (p4 a u a1 a2).imp id (fun h => .inr (.inr h)), ⟨p5.os, p5.tape, p5.output, p5.size, fun q hq he => p5.block q hq fun hg => he (.inr (.inr hg))⟩, ?_, ?_⟩
 ·rcases p6 _ hg with h | h
  ·exact h4 h
  ·omega
 ·rcases p6 _ hg with h | h
  ·exact h5 h
  ·omega
 ·rintro b (rfl | rfl | hb)
  ·exact .inl (.inl rfl)
  ·exact .inl (.inr (.inl rfl))
  ·exact (p6 b hb).imp (fun h => .inr (.inr h)) id
 ·rintro b (rfl | rfl | hb)
  ·omega
  ·omega
  ·exact p7 b hb

def jumpOf : Exit → Option Code
 | .ret => some .ret
 | .exit id => some (.exit id)
 | .goto t => some (.goto t)
 | _ => none
theorem jumpOf_some {e : Exit} (h : isJump e = true) : (jumpOf e).isNone = false := by cases e <;> simp [isJump, jumpOf] at *

def JLoop (P : Program) (J : Gh) (w : World) (F : Fz) (φ : Nat → Nat × Nat) (G0 : Nat → Prop) (S : Nat → Hp) (l D m : Nat) (stop : Bool) (e : Exit) (rec : LoopState → Option Code → Loop) : Gh := fun i F1 G1 w1 => ∃ (φ1 : Nat → Nat × Nat) (Gj : Nat → Prop),
 RH P ⟨w, F, S 0, φ, fun b => own φ (S 0) b ∨ G0 b⟩ F1 φ1 (S i) w1 ∧ w1.heap[l]? = some (.loop (if stop = true ∧ i = m then rec .done (jumpOf e) else rec .ready none)) ∧ w1.heap[D]? = some (.deferred (some [])) ∧
 (∀ b, own φ1 (S i) b → G1 b) ∧ (∀ b, own φ (S 0) b → G1 b) ∧ G1 l ∧ G1 D ∧ (∀ b, G1 b → b < w1.heap.size) ∧
 J (cntOf (S i)) F1 Gj w1 ∧ (∀ b, Gj b → G1 b ∧ ¬ own φ1 (S i) b ∧ b ≠ l ∧ b ≠ D ∧ (w.heap.size ≤ b ∨ own φ (S 0) b ∨ G0 b)) ∧ ∀ b, G0 b → G1 b

theorem JLoop.stable {G0 : Nat → Prop} {B0 : Nat} {E0 : Nat → Prop} (hst : Stable B0 E0 J) (hB0 : B0 ≤ w.heap.size) (S : Nat → Hp) (l D m : Nat) (stop : Bool) (e : Exit) (rec : LoopState → Option Code → Loop) (B : Nat) (hB : w.heap.size ≤ B) (hl : w.heap.size ≤ l) (hD : w.heap.size ≤ D) :
  Stable B (fun b => own φ (S 0) b ∨ b = l ∨ b = D ∨ G0 b) (JLoop P J w F φ G0 S l D m stop e rec) := by
 rintro i F1 G1 w1 F' w' ⟨φ1, Gj, H, h1, h2, h3, h4, h5, h6, h7, h8, h9, h10⟩ hF hag hnew hos htape hout hsz hb
 have hE : ∀ b, (own φ (S 0) b ∨ b = l ∨ b = D ∨ G0 b) → G1 b := by
  rintro b (hb | rfl | rfl | hb)
  ·exact h4 b hb
  ·exact h5
  ·exact h6
  ·exact h10 b hb
 refine ⟨φ1, Gj, ⟨hag, Fz.le_trans H.more hF, fun a u a1 a2 => ?_, fun id => ?_, H.inj, H.high, ⟨hos.trans H.bel.os, htape.trans H.bel.tape, hout.trans H.bel.output, Nat.le_trans H.bel.size hsz, fun k hk he => ?_⟩, H.step, H.glob.mono hF⟩,
  (hb l (lt_of_block h1) (.inl h5)).trans h1, (hb D (lt_of_block h2) (.inl h6)).trans h2, h3, h4, h5, h6, fun b hg => Nat.lt_of_lt_of_le (h7 b hg) hsz, ?_, h9, h10⟩
 ·cases hFa : F1 a with
  | some v => exact H.news a v hFa a2
  | none =>
   obtain ⟨b1, b2⟩ := hnew a u a1 hFa
   rcases b1 with b1 | b1
   ·exact .inl (Nat.le_trans hB b1)
   ·exact absurd (hE _ b1) b2
 ·refine (H.objs id).step (fun _ => rfl) (HStep.refl _ _) hF (fun li j hj => ?_) (fun li => hb _ (H.blk li) (.inl (h3 _ ⟨id, li, rfl⟩)))
  cases hFa : F1 j with
  | some v => exact hF _ _ hFa
  | none =>
   cases hFb : F' j with
   | none => rfl
   | some v =>
    have h3' := h3 _ ⟨id, li, rfl⟩
    rw [← hj] at h3'
    exact absurd h3' (hnew _ _ hFb hFa).2
 ·have hk' : k < w.heap.size := hk
  refine (hb k (Nat.lt_of_lt_of_le hk' H.bel.size) (.inr ⟨by omega, ?_⟩)).trans (H.bel.block k hk he)
  rintro (hb | rfl | rfl | hb)
  ·exact he (.inl hb)
  ·omega
  ·omega
  ·exact he (.inr hb)
 ·refine hst _ F1 Gj w1 F' w' h8 hF hag (fun a u a1 a2 => ?_) hos htape hout hsz (fun b hlt hc => hb b hlt ?_)
  ·obtain ⟨b1, b2⟩ := hnew a u a1 a2
   refine ⟨.inl ?_, fun hg => b2 (h9 _ hg).1⟩
   rcases b1 with b1 | b1
   ·omega
   ·exact absurd (hE _ b1) b2
  ·by_cases hg : G1 b
   ·exact .inl hg
   ·refine .inr ⟨?_, fun he => hg (hE b he)⟩
    rcases hc with hc | ⟨hc, _⟩
    ·exact absurd (h9 b hc).1 hg
    ·omega

theorem R_round {T : List PV} {S : Hp} {tm : Array Value} {l D : Nat} {rec : Loop} {Gj : Nat → Prop} (H : RH P C F φ S w) (hr : RTm F φ S T tm) (hl : w.heap[l]? = some (.loop rec)) (hD : w.heap[D]? = some (.deferred (some []))) (hJ : J (cntOf S) F Gj w) (hG : ∀ b, Gj b → b < w.heap.size ∧ ¬ own φ S b ∧ b ≠ l ∧ b ≠ D) :
  R P ⟨w, F, S, φ, fun b => own φ S b ∨ b = l ∨ b = D ∨ Gj b⟩ (JRound J l D rec) ⟨T, S⟩ { tmps := tm, defers := [] } w := by
 refine ⟨F, φ, fun b => b = l ∨ b = D ∨ Gj b, ⟨H.agree, Fz.le_refl _, fun a u h1 h2 => (by rw [show F a = none from h2] at h1; cases h1), H.objs, H.inj, fun i li => .inr (.inl ⟨i, li, rfl⟩), Bel.refl _ _, HStep.refl _ _, H.glob⟩, hr, fun b hb => ?_, ⟨List.nodup_nil, fun d hd => by cases hd⟩, Gj, rfl, hl, hD, hJ, fun hg => (hG _ hg).2.2.1 rfl, fun hg => (hG _ hg).2.2.2 rfl⟩
 rcases hb with rfl | rfl | hb
 ·exact ⟨lt_of_block hl, (fun ho => by obtain ⟨o2, h1, h2⟩ := own_cells H ho; rw [hl] at h1; cases h1; cases h2), .inr (.inr (.inl rfl))⟩
 ·exact ⟨lt_of_block hD, (fun ho => by obtain ⟨o2, h1, h2⟩ := own_cells H ho; rw [hD] at h1; cases h1; cases h2), .inr (.inr (.inr (.inl rfl)))⟩
 ·exact ⟨(hG b hb).1, (hG b hb).2.1, .inr (.inr (.inr (.inr hb)))⟩

theorem J_putObj {B : Nat} {E : Nat → Prop} (hst : Stable B E J) {i : Nat} {Gj : Nat → Prop} {l : Nat} {o : Obj} (H : RH P C F φ h w) (hl : w.heap[l]? = some o) (hn : dataObj o = false) (hC : C.w0.heap.size ≤ l ∨ C.E l) (hJ : J i F Gj w) (hg : ¬ Gj l) (hE : E l ∨ B ≤ l) (o' : Obj) : J i F Gj (w.putObj l o') := by
 refine hst i F Gj w F (w.putObj l o') hJ (Fz.le_refl _) (H.putObj (o' := o') hl hn hC).agree (fun a u h1 h2 => by rw [h1] at h2; cases h2) rfl rfl rfl (by simp) (fun b hb hc => World.putObj_heap_other ?_)
 rintro rfl
 rcases hc with hc | ⟨hc1, hc2⟩
 ·exact hg hc
 ·rcases hE with h3 | h3
  ·exact hc2 h3
  ·omega

theorem R_turn {σ : PS} {a : Act} {l D : Nat} {rec rec' : Loop} (hst : Stable C.w0.heap.size C.E J) (hne : l ≠ D) (hE : C.E l) (hR : R P C (JRound J l D rec) σ a w) : R P C (JRound J l D rec') σ a (w.putObj l (.loop rec')) := by
 obtain ⟨F, φ, G, H, hr, hid, hm, Gj, hG, hl, hD, hJ, h4, h5⟩ := hR
 refine ⟨F, φ, G, H.putObj hl rfl (.inr hE), hr, fun b hb => ⟨by simpa using (hid b hb).1, (hid b hb).2.1, (hid b hb).2.2⟩, ?_, Gj, hG, World.putObj_heap_same (lt_of_block hl), (World.putObj_heap_other (Ne.symm hne)).trans hD, J_putObj hst H hl rfl (.inr hE) hJ h4 (.inl hE) _, h4, h5⟩
 refine ⟨hm.1, fun d hd => ?_⟩
 obtain ⟨D', e, h1, h2, h3, h4⟩ := hm.2 d hd
 exact ⟨D', e, h1, (World.putObj_heap_other (fun e' => h4 (by rw [hG, e']; exact .inl rfl))).trans h2, h3, h4⟩

theorem RH.wider (H : RH P C F φ h w) {E : Nat → Prop} (hE : ∀ b, C.E b → E b) : RH P ⟨C.w0, C.F0, C.h0, C.φ0, E⟩ F φ h w :=
 ⟨H.agree, H.more, fun a u h1 h2 => (H.news a u h1 h2).imp id (hE _), H.objs, H.inj, fun i li => (H.high i li).imp id (hE _), ⟨H.bel.os, H.bel.tape, H.bel.output, H.bel.size, fun k hk he => H.bel.block k hk fun hc => he (hE k hc)⟩, H.step, H.glob⟩

theorem R_heap {σ : PS} {a : Act} (hR : R P C J σ a w) : R P C J ⟨[], σ.heap⟩ { tmps := #[], defers := a.defers } w := by
 obtain ⟨F, φ, G, H, hr, hid, hm, hJ⟩ := hR
 exact ⟨F, φ, G, H, ⟨rfl, fun i p u h1 => by simp at h1⟩, hid, hm, hJ⟩

theorem round_sound {Y : YS} {G0 : Nat → Prop} {B0 : Nat} {E0 : Nat → Prop} (hstJ : Stable B0 E0 J) (hB0 : B0 ≤ w.heap.size) (hYJ : YOk P J Y) {S : Nat → Hp} {T : List PV} {l D m k : Nat} {stop : Bool} {e : Exit} {rec : LoopState → Option Code → Loop} {xs : List (List TV)} {ps : Array Tmp} {fn : FuncId} {tm : Array Value} {assign body : Code}
  (hrec : ∀ st pe, rec st pe = { state := st, pending := pe, fn, tmps := tm, params := ps, assign, body, defers := D }) (hlD : l ≠ D) (hl0 : w.heap.size ≤ l) (hD0 : w.heap.size ≤ D)
  (hE0 : ∀ b, own φ (S 0) b ∨ G0 b → B0 ≤ b ∨ E0 b) (hr : RTm F φ (S 0) T tm) (hlen : ∀ x ∈ xs, x.length = ps.size) (hstop : stop = true → 0 < m ∧ isJump e = true)
  (ih1 : ∀ (n : Nat) (C : Cx) (J : Gh) (Q : Exit → PS → Prop) (σ : PS) (a : Act) (w : World), YOk P J Y → Stable C.w0.heap.size C.E J → (∀ id, k ≤ id → C.h0 id = .res) → pwp P ⟨Y, k, true⟩ assign Q σ → R P C J σ a w → assign.wpIn (Fr (some l)) n P (liftQ P C J Q) a w)
  (ih2 : ∀ (n : Nat) (C : Cx) (J : Gh) (Q : Exit → PS → Prop) (σ : PS) (a : Act) (w : World), YOk P J Y → Stable C.w0.heap.size C.E J → (∀ id, k ≤ id → C.h0 id = .res) → pwp P ⟨Y, k, true⟩ body Q σ → R P C J σ a w → body.wpIn (Fr (some l)) n P (liftQ P C J Q) a w)
  (hk : ∀ i id, k ≤ id → S i id = .res)
  (hround : ∀ i x, i < m → xs[i]? = some x → pwp P ⟨Y, k, true⟩ assign (seqQ (pwp P ⟨Y, k, true⟩ body fun e' s' => (e' = if stop = true ∧ i + 1 = m then e else .normal) ∧ Weak P k ⟨[], s'.heap⟩ ⟨[], S (i + 1)⟩) fun _ _ => False) ⟨setPs T ps.toList x, S i⟩) :
  YOk P (JLoop P J w F φ G0 S l D m stop e rec) ⟨l, xs, m, stop⟩ := by
 intro n F1 G1 w1 us i x hi hx hJ hag hG1 hus
 have hi : i < m := hi
 have hx : xs[i]? = some x := hx
 obtain ⟨φ1, Gj, H, hl, hD, g1, g2, g3, g4, g5, g6, g7, g8⟩ := hJ
 have hst : ¬ (stop = true ∧ i = m) := fun hc => by omega
 rw [if_neg hst] at hl
 have hsz : us.toArray.size = (rec .ready none).params.size := by
  rw [hrec]; simp only [List.size_toArray]; rw [hus.1]; exact hlen x (List.mem_of_getElem? hx)
 have hy := run_yield (P := P) (args := us.toArray) hl hsz
 refine ⟨_, _, _, _, hy, ?_⟩
 refine roundIn_of_wpIn trivial ?_
 have hT : RTm F1 φ1 (S i) (setPs T ps.toList x) (((rec .ready none).params.zip us.toArray).foldl (fun tmps (t, a) => tmps.setIfInBounds t a) (rec .ready none).tmps) := by
  have := (hr.step H.more H.step).setPs ps.toList x us hus
  rw [hrec]
  have e : ps.zip us.toArray = (ps.toList.zip us).toArray := by apply Array.ext'; simp
  simp only [e, List.foldl_toArray]
  exact this
 have hR := R_round (J := J) H hT hl hD g6 (fun b hb => ⟨g5 b (g7 b hb).1, (g7 b hb).2.1, (g7 b hb).2.2.1, (g7 b hb).2.2.2.1⟩)
 let Cr : Cx := ⟨w1, F1, S i, φ1, fun b => own φ1 (S i) b ∨ b = l ∨ b = D ∨ Gj b⟩
 have hE2 : ∀ b, Cr.E b → w.heap.size ≤ b ∨ own φ (S 0) b ∨ G0 b := by
  rintro b (⟨id, li, hb⟩ | rfl | rfl | hb)
  ·rw [← hb]; exact H.high id li
  ·exact .inl hl0
  ·exact .inl hD0
  ·exact (g7 b hb).2.2.2.2
 have hstC : Stable Cr.w0.heap.size Cr.E J := hstJ.mono (Nat.le_trans hB0 H.bel.size) fun b hb => by
  rcases hE2 b hb with h | h
  ·exact .inl (Nat.le_trans hB0 h)
  ·exact hE0 b h
 have h1 := ih1 n Cr (JRound J l D (rec .ready none)) _ _ _ _ (JRound.yields hYJ l D _) (JRound.stable hstC l D _) (hk i) (hround i x hi hx) hR
 have e0 : (rec .ready none).assign = assign ∧ (rec .ready none).body = body := by rw [hrec]; exact ⟨rfl, rfl⟩
 rw [e0.1, e0.2]
 refine wpIn_mono h1 fun e1 a1 w2 h2 => ?_
 obtain ⟨s, hs, hR2⟩ := h2
 cases e1 with
 | normal =>
  have hlw2 : w2.heap[l]? = some (.loop (rec .ready none)) := by obtain ⟨_, _, _, _, _, _, _, _, _, h5, _⟩ := hR2; exact h5
  refine ⟨_, run_beginRound hlw2 (by rw [hrec]), ?_⟩
  have hR3 := R_turn (rec' := { rec .ready none with state := .busy }) hstC hlD (show Cr.E l from .inr (.inl rfl)) hR2
  have h3 := ih2 n Cr (JRound J l D _) _ _ _ _ (JRound.yields hYJ l D _) (JRound.stable hstC l D _) (hk i) hs hR3
  refine wpIn_mono h3 fun e2 a2 w3 h4 => ?_
  obtain ⟨s', ⟨he, hw⟩, hR4⟩ := h4
  have hR5 := hw Cr _ _ _ (JRound.stable hstC l D _) (hk i) (R_heap hR4)
  obtain ⟨F2, φ2, G2, H2, _, hid2, _, Gj2, hG2, hl3, hD3, hJ2, hn2, hm2⟩ := hR5
  subst hG2
  have hE : ∀ b, Cr.E b → G1 b := by
   rintro b (hb | rfl | rfl | hb)
   ·exact g1 b hb
   ·exact g3
   ·exact g4
   ·exact (g7 b hb).1
  have fin : ∀ jump : Option Code, jump = jumpOf e2 → (stop = true ∧ i + 1 = m → jump.isNone = false) → (¬ (stop = true ∧ i + 1 = m) → jump = none) →
    ∃ v w', (Instr.endRound l jump).run P w3 = .ok v w' ∧ (fun en w' => ∃ F' G', en = Ending.returned (.bool (!(stop && i + 1 == m))) ∧ JLoop P J w F φ G0 S l D m stop e rec (i + 1) F' G' w' ∧ F1.le F' ∧ (∀ a u, F' a = some u → look w' a = some u) ∧
     (∀ a u, F' a = some u → F1 a = none → w1.heap.size ≤ a.block ∨ G1 a.block) ∧ Bel G1 w1 w' ∧ (∀ b, G' b → G1 b ∨ w1.heap.size ≤ b) ∧ ∀ b, G' b → b < w'.heap.size) (.returned v) w' := by
   intro jump hj hj1 hj2
   have hend := run_endRound (P := P) jump hl3
   refine ⟨_, _, hend, F2, fun b => G1 b ∨ own φ2 (S (i + 1)) b ∨ Gj2 b, ?_, ?_, H2.more, ?_, fun a u a1 a2 => (H2.news a u a1 a2).imp id (hE _), ?_, ?_, ?_⟩
   ·congr 2
    by_cases hc : stop = true ∧ i + 1 = m
    ·rw [hj1 hc]; simp [hc.1, hc.2]
    ·rw [hj2 hc]
     cases hs : stop with
     | false => simp
     | true => have : ¬ i + 1 = m := fun h => hc ⟨hs, h⟩; simp [this]
   ·have H3 : RH P Cr F2 φ2 (S (i + 1)) (w3.putObj l (.loop { { rec .ready none with state := .busy } with state := if jump.isNone then .ready else .done, pending := jump })) := H2.putObj hl3 rfl (.inr (.inr (.inl rfl)))
    refine ⟨φ2, Gj2, H.transE (E := Cr.E) hE2 H3, ?_, (World.putObj_heap_other (Ne.symm hlD)).trans hD3, fun b hb => .inr (.inl hb), fun b hb => .inl (g2 b hb), .inl g3, .inl g4, ?_, ?_, fun b hb => ?_, fun b hb => .inl (g8 b hb)⟩
    ·rw [World.putObj_heap_same (lt_of_block hl3)]
     congr 2
     by_cases hc : stop = true ∧ i + 1 = m
     ·rw [if_pos hc, hj1 hc, hrec, hrec]
      simp only [Bool.false_eq_true, if_false]
      rw [hj]
      have : e2 = e := by rw [if_pos hc] at he; exact he
      rw [this]
     ·rw [if_neg hc, hj2 hc, hrec]
      rfl
    ·rintro b (hb | ⟨id, li, hb⟩ | hb)
     ·have := H2.bel.size; simp only [World.putObj_size]; exact Nat.lt_of_lt_of_le (g5 b hb) this
     ·rw [← hb]; simp only [World.putObj_size]; exact H2.blk li
     ·simp only [World.putObj_size]; exact (hid2 b (.inr (.inr hb))).1
    ·exact J_putObj hstC H2 hl3 rfl (.inr (.inr (.inl rfl))) hJ2 hn2 (.inl (.inr (.inl rfl))) _
    ·refine ⟨.inr (.inr hb), (hid2 b (.inr (.inr hb))).2.1, fun e => hn2 (e ▸ hb), fun e => hm2 (e ▸ hb), ?_⟩
     rcases (hid2 b (.inr (.inr hb))).2.2 with h5 | h5
     ·exact .inl (Nat.le_trans H.bel.size h5)
     ·exact hE2 b h5
   ·exact (H2.putObj hl3 rfl (.inr (.inr (.inl rfl)))).agree
   ·have hb := H2.bel
    refine ⟨hb.os, hb.tape, hb.output, by simpa using hb.size, fun q hq he => ?_⟩
    rw [World.putObj_heap_other (fun e' => he (by rw [e']; exact g3))]
    exact hb.block q hq fun hc => he (hE q hc)
   ·rintro b (hb | ⟨id, li, hb⟩ | hb)
    ·exact .inl hb
    ·rw [← hb]
     rcases H2.high id li with h5 | h5
     ·exact .inr h5
     ·exact .inl (hE _ h5)
    ·rcases (hid2 b (.inr (.inr hb))).2.2 with h5 | h5
     ·exact .inr h5
     ·exact .inl (hE _ h5)
   ·rintro b (hb | ⟨id, li, hb⟩ | hb)
    ·have := H2.bel.size; simp only [World.putObj_size]; exact Nat.lt_of_lt_of_le (g5 b hb) this
    ·rw [← hb]; simp only [World.putObj_size]; exact H2.blk li
    ·simp only [World.putObj_size]; exact (hid2 b (.inr (.inr hb))).1
  have hjump : stop = true ∧ i + 1 = m → (jumpOf e2).isNone = false := fun hc => by
   rw [if_pos hc] at he; rw [he]; exact jumpOf_some (hstop hc.1).2
  have hnorm : ¬ (stop = true ∧ i + 1 = m) → e2 = .normal := fun hc => by rw [if_neg hc] at he; exact he
  cases e2 with
  | normal => exact fin none rfl hjump (fun _ => rfl)
  | ret => exact fin (some .ret) rfl hjump (fun hc => by cases hnorm hc)
  | exit id => exact fin (some (.exit id)) rfl hjump (fun hc => by cases hnorm hc)
  | goto t => exact fin (some (.goto t)) rfl hjump (fun hc => by cases hnorm hc)
  | panic ch =>
   by_cases hc : stop = true ∧ i + 1 = m
   ·have := hjump hc; simp [jumpOf] at this
   ·cases hnorm hc
  | outgrown =>
   by_cases hc : stop = true ∧ i + 1 = m
   ·have := hjump hc; simp [jumpOf] at this
   ·cases hnorm hc
 | _ => exact hs.elim

end Go.Pm

/- Part QmQ. -/
namespace Go.Pm
open Go Go.RowKit

variable {P : Program}

theorem arrives_loop {r : Option Nat} {n : Nat} {c : Code} {Q : Exit → Act → World → Prop} {A : Type} (I : A → Act → World → Prop) (μ : A → Nat)
  (round : ∀ x a w, I x a w → c.wpIn (Fr r) n P (Exit.then (fun a' w' => ∃ x', I x' a' w' ∧ μ x' < μ x) Q) a w) {x0 : A} {a : Act} {w : World} (h0 : I x0 a w) : (Code.loop c).wpIn (Fr r) n P Q a w := by
 intro b k cs hro hb hr
 have key : ∀ j x a w, μ x = j → I x a w →
   ∃ e a' w', Q e a' w' ∧ ArrivesIn (Machine.fenced P (Fr r)) P (lone (b.atR a (.code c :: .inLoop c :: k)) cs w) b k cs e a' w' := by
  intro j
  induction j using Nat.strongRecOn with
  | _ j ih =>
   intro x a w hn hI
   obtain ⟨e, a₁, w₁, hq, harr⟩ := round x a w hI b (.inLoop c :: k) cs hro hb hr
   cases e with
   | normal =>
    obtain ⟨x', hI₁, hlt⟩ := hq
    obtain ⟨e₂, a₂, w₂, hq₂, harr₂⟩ := ih (μ x') (hn ▸ hlt) x' a₁ w₁ rfl hI₁
    exact ⟨e₂, a₂, w₂, hq₂, .of_steps (StepsIn.trans harr (.one (fenced_calm hb hr rfl) stepR_inLoop)) harr₂⟩
   | exit id => exact ⟨_, a₁, w₁, hq, .pass (x := .inLoop c) rfl (fun _ _ => .inl (by simp)) harr⟩
   | goto l => exact ⟨_, a₁, w₁, hq, .pass (x := .inLoop c) rfl (fun _ _ => .inl (by simp)) harr⟩
   | ret => exact ⟨_, a₁, w₁, hq, .pass (x := .inLoop c) rfl (fun _ _ => .inl (by simp)) harr⟩
   | panic ch => exact ⟨_, a₁, w₁, hq, .pass (x := .inLoop c) rfl (fun _ _ => .inl (by simp)) harr⟩
   | outgrown => exact ⟨_, a₁, w₁, hq, .pass (x := .inLoop c) rfl (fun _ _ => .inl (by simp)) harr⟩
 obtain ⟨e, a', w', hq, harr⟩ := key _ x0 a w rfl h0
 exact ⟨e, a', w', hq, .of_steps (.one (fenced_calm hb hr rfl) stepR_loop) harr⟩



theorem stepR_scope' {b : Frame} {a : Act} {k : List Item} {cs : List Frame} {w : World} {c : Code} : step P (lone (b.atR a (.code (.scope c) :: k)) cs w) = .next (lone (b.atR a (.code c :: .inScope c :: k)) cs w) :=
 step_lone_go (by simp [stepG, stepG.exec, Frame.atR])
theorem stepR_inScope' {b : Frame} {a : Act} {k : List Item} {cs : List Frame} {w : World} {c : Code} : step P (lone (b.atR a (.inScope c :: k)) cs w) = .next (lone (b.atR a k) cs w) :=
 step_lone_go (by simp [stepG, stepG.exec, Frame.atR])
def noGotoQ (Q : Exit → Act → World → Prop) : Exit → Act → World → Prop
 | .goto _, _, _ => False
 | e, a, w => Q e a w
theorem wpIn_scope_s {F : Fence} {n : Nat} {Q : Exit → Act → World → Prop} {a : Act} {w : World} {c : Code} (h : c.wpIn F n P (noGotoQ Q) a w) : (Code.scope c).wpIn F n P Q a w := by
 intro b k cs hro hb hr
 have h0 : (lone (b.atR a (.code (.scope c) :: k)) cs w).fenced P F := fenced_calm hb hr rfl
 obtain ⟨e, a₁, w₁, hq, harr⟩ := h b (.inScope c :: k) cs hro hb hr
 cases e with
 | normal => exact ⟨.normal, a₁, w₁, hq, .head h0 stepR_scope' (StepsIn.trans harr (.one (fenced_calm hb hr rfl) stepR_inScope'))⟩
 | exit id' =>
  have hx : exitTo id' (.inScope c :: k) = exitTo id' k := by simp [exitTo]
  exact ⟨.exit id', a₁, w₁, hq, fun k' hk => .head h0 stepR_scope' (harr.1 k' (by rw [hx]; exact hk)),
   fun hr' hk => let ⟨k₁, h1, h2⟩ := harr.2 hr' (by rw [hx]; exact hk); ⟨k₁, h1, .head h0 stepR_scope' h2⟩⟩
 | goto l => exact hq.elim
 | ret => exact ⟨_, a₁, w₁, hq, .of_steps (.one h0 stepR_scope') harr⟩
 | panic ch => exact ⟨_, a₁, w₁, hq, .of_steps (.one h0 stepR_scope') harr⟩
 | outgrown => exact ⟨_, a₁, w₁, hq, .of_steps (.one h0 stepR_scope') harr⟩

theorem pwp_sound (hm : P.follows .mixedOrders = true) : ∀ (c : Code) (X : PX) (Q : Exit → PS → Prop) (r : Option Nat) (n : Nat) (C : Cx) (J : Gh) (σ : PS) (a : Act) (w : World),
  YOk P J X.Y → Stable C.w0.heap.size C.E J → (∀ id, X.k ≤ id → C.h0 id = .res) → (r.isSome = true → X.inr = true) → pwp P X c Q σ → R P C J σ a w → c.wpIn (Fr r) n P (liftQ P C J Q) a w
 | .skip, X, Q, r, n, C, J, σ, a, w, hY, hst, hk, hr, h, hR => wpIn_skip ⟨σ, h, hR⟩
 | .label _, X, Q, r, n, C, J, σ, a, w, hY, hst, hk, hr, h, hR => wpIn_label ⟨σ, h, hR⟩
 | .region id ops draw, X, Q, r, n, C, J, σ, a, w, hY, hst, hk, hr, h, hR => by
  cases draw with
  | false => exact wpIn_region (pops_sound hY hst _ _ _ _ a w h hR fun σ' fs a' w' hk hr => ⟨σ', hk.2, hr⟩)
  | true =>
   have hRd : R P C J σ a w.drew := by
    obtain ⟨F, φ, G, H, hr, hid, hm, hJ⟩ := hR
    have H' : RH P (loc w F φ σ.heap) F φ σ.heap w.drew := H.here.drew
    obtain ⟨s1, s2, s3⟩ := surr hst H hid hm hJ H'
    exact ⟨F, φ, G, H.trans H', hr, s1, s2, s3⟩
   refine wpIn_region_any hm (draw_sound (K := Q .normal) hY hst ?_ hRd fun σ' a' w' hk hr => ⟨σ', hk, hr⟩)
   have h' : pops P X.Y ops (List.range ops.size) σ [] (fun σ' fs => ((true = true) → drawOk ops fs = true) ∧ Q .normal σ') := h
   simpa using h'
 | .seq x y, X, Q, r, n, C, J, σ, a, w, hY, hst, hk, hr, h, hR => by
  refine wpIn_seq (wpIn_mono (pwp_sound hm x X _ r n C J σ a w hY hst hk hr h hR) fun e a' w' he => ?_)
  obtain ⟨s, hs, hr'⟩ := he
  cases e with
  | normal => exact pwp_sound hm y X Q r n C J s a' w' hY hst hk hr hs hr'
  | _ => exact ⟨s, hs, hr'⟩
 | .cond c x y, X, Q, r, n, C, J, σ, a, w, hY, hst, hk, hr, h, hR => by
  obtain ⟨t, ht, h1, h2⟩ := h
  obtain ⟨F, φ, G, H, hrr, _⟩ := id hR
  have he := eval_rep H.glob hrr c
  rw [ht] at he
  have hv : a.eval c = .bool t := RepT.bool_inv he
  refine wpIn_cond hv ?_
  cases t with
  | true => exact pwp_sound hm x X Q r n C J σ a w hY hst hk hr (h1 rfl) hR
  | false => exact pwp_sound hm y X Q r n C J σ a w hY hst hk hr (h2 rfl) hR
 | .block id c, X, Q, r, n, C, J, σ, a, w, hY, hst, hk, hr, h, hR => by
  refine wpIn_block (wpIn_mono (pwp_sound hm c X _ r n C J σ a w hY hst hk hr h hR) fun e a' w' he => ?_)
  obtain ⟨s, hs, hr'⟩ := he
  cases e with
  | exit id' =>
   simp only [blockQ] at hs
   simp only [Exit.inBlock]
   split
   ·rename_i hi; rw [if_pos hi] at hs; exact ⟨s, hs, hr'⟩
   ·rename_i hi; rw [if_neg hi] at hs; exact ⟨s, hs, hr'⟩
  | _ => exact ⟨s, hs, hr'⟩
 | .loop c, X, Q, r, n, C, J, σ, a, w, hY, hst, hk, hr, h, hR => by
  obtain ⟨A, S, μ, x0, h0, hround⟩ := h
  refine arrives_loop (fun x a w => R P C J (S x) a w) μ (fun x a w hI => wpIn_mono (pwp_sound hm c X _ r n C J (S x) a w hY hst hk hr (hround x) hI) fun e a' w' he => ?_) (h0 C J a w hst hk hR)
  obtain ⟨s, hs, hr'⟩ := he
  cases e with
  | normal => obtain ⟨x', hw, hlt⟩ := hs; exact ⟨x', hw C J a' w' hst hk hr', hlt⟩
  | _ => exact ⟨s, hs, hr'⟩
 | .exit id, X, Q, r, n, C, J, σ, a, w, hY, hst, hk, hr, h, hR => wpIn_exit ⟨σ, h, hR⟩
 | .ret, X, Q, r, n, C, J, σ, a, w, hY, hst, hk, hr, h, hR => wpIn_ret ⟨σ, h, hR⟩
 | .rangeFunc g ps assign body, X, Q, r, n, C, J, σ, a, w, hY, hst, hk, hr, h, hR => by
  obtain ⟨hin, f, pre, caps, xs, T, S, k, m, stop, e, h1, h2, h3, h4, h5, h6, h7, h8, h10, h11⟩ := h
  have hrn : r = none := by
   cases r with
   | none => rfl
   | some l => have := hr rfl; rw [hin] at this; cases this
  subst hrn
  obtain ⟨F, φ, G, H, hrr, hid, hmk, hJ⟩ := h1 C J a w hst hk hR
  have hg := eval_rep H.glob hrr g
  rw [h2] at hg
  have hg' : RepT F (.fn f pre caps) (a.eval g) := hg
  generalize hu : a.eval g = u at hg'
  cases hg' with
  | fn _ _ _ vs us hlv hrepv hl hrep =>
  refine wpIn_rangeFunc fun fn _ => ?_
  obtain ⟨rec, hrec⟩ : ∃ rec : LoopState → Option Code → Loop, rec = fun st pe => { state := st, pending := pe, fn, tmps := a.tmps, params := ps, assign, body, defers := w.heap.size } := ⟨_, rfl⟩
  have hrec' : ∀ st pe, rec st pe = { state := st, pending := pe, fn, tmps := a.tmps, params := ps, assign, body, defers := w.heap.size } := fun st pe => by rw [hrec]
  obtain ⟨W1, hW1⟩ : ∃ W1, (w.alloc (.deferred (some []))).alloc (.loop (rec .ready none)) = W1 := ⟨_, rfl⟩
  have hL1 : W1.heap[w.heap.size + 1]? = some (.loop (rec .ready none)) := by
   rw [← hW1]; have := World.alloc_heap_new (w.alloc (.deferred (some []))) (.loop (rec .ready none)); rwa [World.size_alloc] at this
  have hK1 : W1.heap[w.heap.size]? = some (.deferred (some [])) := by
   rw [← hW1]; exact (Below.heap_alloc _ _ _ (by simp)).trans (World.alloc_heap_new w _)
  have hsz1 : W1.heap.size = w.heap.size + 2 := by rw [← hW1]; simp
  have hb1 : Below w.heap.size w W1 := by
   rw [← hW1]; exact ((Below.refl _ w).alloc (Nat.le_refl _) _).alloc (by simp) _
  have H1 : RH P (loc w F φ (S 0)) F φ (S 0) W1 := H.here.grow (Fz.le_refl _) (fun a u hu => by
   have hc := H.agree _ _ hu
   have := cell_lt hc
   rw [look_same (hb1.block a.block (by omega))]; exact hc) (fun a u e1 e2 => by rw [e1] at e2; cases e2) hb1
  obtain ⟨fnn, hfn, hbody, hname⟩ := h3.1
  have hcall : ∀ us : Array Value, (callFunc f us).run P W1 = .ok (.enter f us) W1 := by
   intro us
   simp only [callFunc, Sem.run_bind, run_program, Result.andThen_ok, hfn, hname, hbody, Bool.false_eq_true, if_false, Sem.run_pure]
  refine ⟨w.heap.size + 1, [{ target := .collected w.heap.size, args := #[] }], W1, { target := .fn (.func f) us.toArray, args := vs.toArray ++ #[.func (.yield (w.heap.size + 1)) #[] #[]] }, W1, f,
   (vs ++ .func (.yield (w.heap.size + 1)) #[] #[] :: us).toArray, W1, ?_, ?_, ?_, ?_, ?_, ?_⟩
  ·rw [← hW1, hrec]; exact run_enterLoop_outer _ _ _ _ _
  ·have e0 : a.eval g = .func (.func f) vs.toArray us.toArray := hu
   simp only [resolve, rangeCall, e0]
   simp [Deferred.ofValue, Act.eval]
  ·intro f' _; trivial
  ·simp only [invoke]
   have e : vs.toArray ++ #[Value.func (.yield (w.heap.size + 1)) #[] #[]] ++ us.toArray = (vs ++ Value.func (.yield (w.heap.size + 1)) #[] #[] :: us).toArray := by apply Array.ext'; simp
   rw [e]; exact hcall _
  ·intro h; cases h
  ·have hG0 : ∀ b, own φ (S 0) b ∨ G b → C.w0.heap.size ≤ b ∨ C.E b := by
    rintro b (⟨id, li, hb⟩ | hb)
    ·rw [← hb]; exact H.high id li
    ·exact (hid b hb).2.2
   have H1w : RH P ⟨w, F, S 0, φ, fun b => own φ (S 0) b ∨ G b⟩ F φ (S 0) W1 := H1.wider (fun b hb => .inl hb)
   have hJ1 : J (cntOf (S 0)) F G W1 := hst _ F G w F W1 hJ (Fz.le_refl _) H1.agree (fun a u e1 e2 => by rw [e1] at e2; cases e2) hb1.os hb1.tape hb1.output hb1.size (fun b hb _ => hb1.block b hb)
   have hJ0 : JLoop P J w F φ G S (w.heap.size + 1) w.heap.size m stop e rec 0 F (fun b => own φ (S 0) b ∨ b = w.heap.size + 1 ∨ b = w.heap.size ∨ G b) W1 := by
    refine ⟨φ, G, H1w, ?_, hK1, fun b hb => .inl hb, fun b hb => .inl hb, .inr (.inl rfl), .inr (.inr (.inl rfl)), ?_, hJ1, fun b hb => ⟨.inr (.inr (.inr hb)), (hid b hb).2.1, ?_, ?_, .inr (.inr hb)⟩, fun b hb => .inr (.inr (.inr hb))⟩
    ·rw [if_neg (fun hc => by have := (h7 hc.1).1; omega)]; exact hL1
    ·rintro b (⟨id, li, hb⟩ | rfl | rfl | hb)
     ·have := H.blk li; omega
     ·omega
     ·omega
     ·have := (hid b hb).1; omega
    ·have := (hid b hb).1; omega
    ·have := (hid b hb).1; omega
   have hyok := round_sound (P := P) (J := J) (Y := X.Y) (G0 := G) hst H.bel.size hY (w := w) (F := F) (φ := φ) (S := S) (T := T) (l := w.heap.size + 1) (D := w.heap.size) (m := m) (k := k) (stop := stop) (e := e) (rec := rec) (xs := xs) (ps := ps) (fn := fn) (tm := a.tmps) (assign := assign) (body := body)
    hrec' (by omega) (by omega) (Nat.le_refl _) hG0 hrr h4 h7
    (fun n C J Q σ a w' q0 q1 q2 q3 q4 => pwp_sound hm assign ⟨X.Y, k, true⟩ Q (some (w.heap.size + 1)) n C J σ a w' q0 q1 q2 (fun _ => rfl) q3 q4)
    (fun n C J Q σ a w' q0 q1 q2 q3 q4 => pwp_sound hm body ⟨X.Y, k, true⟩ Q (some (w.heap.size + 1)) n C J σ a w' q0 q1 q2 (fun _ => rfl) q3 q4)
    h8 h10
   have hstab := JLoop.stable (P := P) (w := w) (F := F) (φ := φ) (G0 := G) hst H.bel.size S (w.heap.size + 1) w.heap.size m stop e rec W1.heap.size (by omega) (by omega) (Nat.le_refl _)
   refine callsIn_any ((h3.2 m stop h5 (fun hs => (h6 hs).1) (fun hs => (h7 hs).1) _ (w.heap.size + 1) W1 F _ vs us hstab hyok H1.agree ?_ H1.glob ⟨hlv, hrepv⟩ ⟨hl, hrep⟩ hJ0).mono fun en w' hpost => ?_)
   ·rintro b (⟨id, li, hb⟩ | rfl | rfl | hb)
    ·have := H.blk li; omega
    ·omega
    ·omega
    ·have := (hid b hb).1; omega
   ·obtain ⟨u, F', G', rfl, ⟨φ', Gj, H2, hl2, hD2, g1, g2, g3, g4, g5, g6, g7, g8⟩, _, _, _⟩ := hpost
    have hend := run_endLoop (P := P) hl2 (by
     rw [hrec]; split <;> simp)
    have hlC : (⟨w, F, S 0, φ, fun b => own φ (S 0) b ∨ G b⟩ : Cx).w0.heap.size ≤ w.heap.size + 1 := by show w.heap.size ≤ _; omega
    have H3 : RH P ⟨w, F, S 0, φ, fun b => own φ (S 0) b ∨ G b⟩ F' φ' (S m) (w'.putObj (w.heap.size + 1) (.loop { (if stop = true ∧ m = m then rec .done (jumpOf e) else rec .ready none) with state := .exhausted })) := H2.putObj hl2 rfl (.inl hlC)
    have s3 : J (cntOf (S m)) F' Gj (w'.putObj (w.heap.size + 1) (.loop { (if stop = true ∧ m = m then rec .done (jumpOf e) else rec .ready none) with state := .exhausted })) := J_putObj hst H2 hl2 rfl (.inl hlC) g6 (fun hg => (g7 _ hg).2.2.1 rfl) (.inr (by have := H.bel.size; omega)) _
    have hD3 : (w'.putObj (w.heap.size + 1) (.loop { (if stop = true ∧ m = m then rec .done (jumpOf e) else rec .ready none) with state := .exhausted })).heap[w.heap.size]? = some (.deferred (some [])) := (World.putObj_heap_other (by omega)).trans hD2
    have hnew : ∀ b, b < w.heap.size → ¬ own φ (S 0) b → ¬ G b → ¬ own φ' (S m) b := by
     rintro b hb hn hg ⟨id, li, e⟩
     rcases H3.high id li with h3 | h3 | h3
     ·rw [e] at h3; exact absurd (show w.heap.size ≤ b from h3) (by omega)
     ·rw [e] at h3; exact hn h3
     ·rw [e] at h3; exact hg h3
    have hRm : R P C J ⟨T, S m⟩ { a with defers := [{ target := .collected w.heap.size, args := #[] }] ++ a.defers } (w'.putObj (w.heap.size + 1) (.loop { (if stop = true ∧ m = m then rec .done (jumpOf e) else rec .ready none) with state := .exhausted })) := by
     refine ⟨F', φ', Gj, H.transE hG0 H3, hrr.step H3.more H3.step, fun b hb => ⟨by simpa using g5 b (g7 b hb).1, (g7 b hb).2.1, ?_⟩, ⟨?_, fun d hd => ?_⟩, s3⟩
     ·rcases (g7 b hb).2.2.2.2 with h | h
      ·exact .inl (Nat.le_trans H.bel.size h)
      ·exact hG0 b h
     ·simp only [List.cons_append, List.nil_append, List.nodup_cons]
      refine ⟨fun hd => ?_, hmk.1⟩
      obtain ⟨D, e1, _, e2, _⟩ := hmk.2 _ hd
      have hlt := lt_of_block e2
      simp at e1; omega
     ·rcases List.mem_cons.1 hd with rfl | hd
      ·refine ⟨w.heap.size, rfl, H.bel.size, hD3, fun ho => ?_, fun hg => (g7 _ hg).2.2.2.1 rfl⟩
       obtain ⟨o2, e1, e2⟩ := own_cells H3 ho
       rw [hD3] at e1; cases e1; cases e2
      ·obtain ⟨D, e1, e2, e3, e4, e5⟩ := hmk.2 d hd
       have hlt := lt_of_block e3
       refine ⟨D, e1, e2, (H3.bel.block D hlt (fun hc => hc.elim e4 e5)).trans e3, hnew D hlt e4 e5, fun hg => ?_⟩
       rcases (g7 D hg).2.2.2.2 with h | h | h
       ·omega
       ·exact e4 h
       ·exact e5 h
    refine ⟨_, _, hend, ?_⟩
    cases hs : stop with
    | false =>
     have e1 := (h6 hs).2
     rw [if_neg (by simp), hrec]
     subst e1
     subst hs
     rw [hrec] at hRm
     exact ⟨_, h11, by simpa using hRm⟩
    | true =>
     have e1 := (h7 hs).2
     subst hs
     rw [if_pos ⟨rfl, rfl⟩, hrec]
     rw [if_pos ⟨rfl, rfl⟩, hrec] at hRm
     cases e with
     | ret => exact wpIn_ret ⟨_, h11, hRm⟩
     | exit id => exact wpIn_exit ⟨_, h11, hRm⟩
     | goto t => exact wpIn_goto ⟨_, h11, hRm⟩
     | _ => cases e1
 | .scope c, X, Q, r, n, C, J, σ, a, w, hY, hst, hk, hr, h, hR => by
  refine wpIn_scope_s (wpIn_mono (pwp_sound hm c X _ r n C J σ a w hY hst hk hr h hR) fun e a' w' he => ?_)
  obtain ⟨s, hs, hr'⟩ := he
  cases e with
  | goto l => exact hs.elim
  | _ => exact ⟨s, hs, hr'⟩
 | .goto .., X, Q, r, n, C, J, σ, a, w, hY, hst, hk, hr, h, hR => h.elim
 | .refuse .., X, Q, r, n, C, J, σ, a, w, hY, hst, hk, hr, h, hR => h.elim

end Go.Pm

/- Part QmR. -/
namespace Go.Pm
open Go Go.RowKit

variable {P : Program} {C : Cx} {F F' : Fz} {φ φ' : Nat → Nat × Nat} {h h' : Hp} {w w' : World} {J : Gh}

def resO1 (P : Program) (σ : PS) : ResultVar → Option PV
 | .tmp t => some (σ.tmps.getD t .junk)
 | .cell a t => match σ.tmps.getD a .junk with
  | .ptr id off => match σ.heap id with
   | .box cells => loadB P t cells off
   | .ro cells => (partT P t (cells.drop off) 0).map .t
   | _ => none
  | _ => none
def resO (P : Program) (rs : List ResultVar) (σ : PS) : Option PV :=
 match rs.map (fun v => (resO1 P σ v).map (thawP σ.heap)) with
 | [some p] => some (normA p)
 | l => (allO l).map (aggP true)

theorem run_result1 {σ : PS} {tm : Array Value} {p : PV} {v : ResultVar} (H : RH P C F φ σ.heap w) (hr : RTm F φ σ.heap σ.tmps tm) (hx : resO1 P σ v = some p) :
  ∃ u, ((fun v => match v with | .tmp t => pure (tm.getD t undef) | .cell b t => do loadVar t (← asAddr (tm.getD b undef))) v : Sem Value).run P w = .ok u w ∧ RepP F φ σ.heap p u := by
 cases v with
 | tmp t => simp only [resO1, Option.some.injEq] at hx; subst hx; exact ⟨_, rfl, hr.at_ t⟩
 | cell b t =>
  simp only [resO1] at hx
  have hb := hr.at_ b
  split at hx
  ·rename_i id off hp
   rw [hp] at hb
   obtain ⟨hbox, hu⟩ := hb
   split at hx
   ·rename_i cells hc
    obtain ⟨u', hu', hr'⟩ := load_ptr_quiet (t := t) (off := off) H hc hx
    refine ⟨u', ?_, hr'⟩
    simp only [hu, asAddr, Sem.run_bind, Sem.run_pure, Result.andThen_ok, hu']
   ·rename_i cells hc
    simp only [Option.map_eq_some_iff] at hx
    obtain ⟨y, hy, rfl⟩ := hx
    have hob := H.objs id
    rw [hc] at hob
    obtain ⟨us, ty, h1, h2, h3, h4⟩ := hob
    obtain ⟨v, hv, hrep⟩ := loadVar_rep (P := P) (w := w) (a := ⟨(φ id).1, off, none⟩) hy (h2.drop off) (fun i u hu => h3 (off + i) u (by simpa using hu)) (fun i u hu => by
     rw [add_plain, cell_at h1]; simpa using hu)
    refine ⟨v, ?_, hrep⟩
    simp only [hu, asAddr, Sem.run_bind, Sem.run_pure, Result.andThen_ok, hv]
   ·cases hx
  ·cases hx

theorem run_results {σ : PS} {tm : Array Value} {r : PV} {fn : Func} (H : RH P C F φ σ.heap w) (hr : RTm F φ σ.heap σ.tmps tm) (hx : resO P fn.results.toList σ = some r) :
  ∃ u, (results fn tm).run P w = .ok u w ∧ RepP F φ σ.heap r u := by
 have hm : ∀ us : List Value, (fn.results.toList.mapM (fun v => match v with | .tmp t => pure (tm.getD t undef) | .cell b t => do loadVar t (← asAddr (tm.getD b undef))) : Sem (List Value)).run P w = .ok us w →
   (results fn tm).run P w = .ok (if h : us.toArray.size = 1 then us.toArray[0] else .tuple us.toArray) w := by
  intro us hus
  unfold results
  rw [Array.mapM_eq_mapM_toList]
  simp only [Sem.run_bind, Sem.run_map, Sem.run_pure]
  erw [hus]
  rfl
 have key : ∀ (l : List ResultVar) (xs : List PV), allO (l.map fun v => (resO1 P σ v).map (thawP σ.heap)) = some xs →
   ∃ us : List Value, (l.mapM (fun v => match v with | .tmp t => pure (tm.getD t undef) | .cell b t => do loadVar t (← asAddr (tm.getD b undef))) : Sem (List Value)).run P w = .ok us w ∧ us.length = xs.length ∧
    ∀ (i : Nat) (p : PV) (u : Value), xs[i]? = some p → us[i]? = some u → RepP F φ σ.heap p u := by
  intro l
  induction l with
  | nil => intro xs hxs; simp [allO] at hxs; subst hxs; exact ⟨[], by simp, rfl, fun i p u h => by simp at h⟩
  | cons v l ih =>
   intro xs hxs
   simp only [List.map_cons] at hxs
   cases hv : resO1 P σ v with
   | none => rw [hv] at hxs; simp [allO] at hxs
   | some p =>
    rw [hv] at hxs
    simp only [Option.map_some, allO, Option.map_eq_some_iff] at hxs
    obtain ⟨xs', hxs', rfl⟩ := hxs
    obtain ⟨us, hus, rl, rus⟩ := ih xs' hxs'
    obtain ⟨u, hu, ru⟩ := run_result1 H hr hv
    refine ⟨u :: us, ?_, by simp [rl], fun i q z hq hz => ?_⟩
    ·simp only at hu
     simp only [List.mapM_cons, Sem.run_bind, hu, Result.andThen_ok, hus, Sem.run_pure]
    ·cases i with
     | zero => simp at hq hz; subst hq; subst hz; exact thawP_rep H ru
     | succ i => exact rus i q z (by simpa using hq) (by simpa using hz)
 unfold resO at hx
 split at hx
 ·rename_i p hp
  simp only [Option.some.injEq] at hx; subst hx
  obtain ⟨l, hl⟩ : ∃ l, fn.results.toList = l := ⟨_, rfl⟩
  rw [hl] at hp
  match l, hp with
  | [v], hp =>
   simp only [List.map_cons, List.map_nil, List.cons.injEq, and_true, Option.map_eq_some_iff] at hp
   obtain ⟨q, hq, rfl⟩ := hp
   obtain ⟨u, hu, ru⟩ := run_result1 H hr hq
   refine ⟨u, hm [u] ?_, normA_rep (thawP_rep H ru)⟩
   rw [hl]
   simp only at hu
   simp only [List.mapM_cons, List.mapM_nil, Sem.run_bind, hu, Result.andThen_ok, Sem.run_pure]
  | [], hp => simp at hp
  | _ :: _ :: _, hp => simp at hp
 ·rename_i hne
  simp only [Option.map_eq_some_iff] at hx
  obtain ⟨xs, hxs, rfl⟩ := hx
  obtain ⟨us, hus, rl, rus⟩ := key _ _ hxs
  have hl : ¬ us.toArray.size = 1 := by
   intro e
   have e1 : xs.length = 1 := by simp at e; omega
   obtain ⟨l, hl⟩ : ∃ l, fn.results.toList = l := ⟨_, rfl⟩
   rw [hl] at hxs hne
   have e2 : l.length = 1 := by
    have := (allO_some (f := fun v => (resO1 P σ v).map (thawP σ.heap)) hxs).1; omega
   match l, e2 with
   | [v], _ =>
    cases hv : (resO1 P σ v).map (thawP σ.heap) with
    | none => rw [List.map_cons, hv] at hxs; simp [allO] at hxs
    | some p => exact hne p (by simp [hv])
  have := aggP_rep (F := F) (φ := φ) (h := σ.heap) (b := true) rl (fun i p u hp hu => ⟨rus i p u hp hu, fun e => by cases e⟩)
  refine ⟨.tuple us.toArray, ?_, this⟩
  rw [hm _ hus, dif_neg hl]

theorem leaves {n : Nat} {fn : Func} {s : PS} {tm : Array Value} {Rr : Ending → World → Prop} (hst : Stable C.w0.heap.size C.E J)
  (hfin : ∀ w, R P C J s { tmps := tm, defers := [] } w → ∃ v, (results fn tm).run P w = .ok v w ∧ Rr (.returned v) w) :
  ∀ (ds : List Deferred) (w : World), R P C J s { tmps := tm, defers := ds } w → LeavesInM (Fr none) n P fn tm Rr ds .returning w
 | [], w, hR => hfin w hR
 | d :: ds, w, hR => by
  obtain ⟨F, φ, G, H, hr, hid, hm, hJ⟩ := hR
  obtain ⟨D, rfl, h1, h2, h3, h4⟩ := hm.2 _ List.mem_cons_self
  have hn := List.nodup_cons.1 hm.1
  have H' : RH P C F φ s.heap (w.putObj D (.deferred none)) := H.putObj h2 rfl (.inl h1)
  refine ⟨by simp, .inl ⟨D, w.putObj D (.deferred none), rfl, run_takeDeferred h2, leaves hst hfin ds _ ⟨F, φ, G, H', hr, fun b hb => ⟨by simpa using (hid b hb).1, (hid b hb).2⟩, ⟨hn.2, fun d hd => ?_⟩, ?_⟩⟩⟩
  ·obtain ⟨D', rfl, a1, a2, a3, a4⟩ := hm.2 d (List.mem_cons_of_mem _ hd)
   have hne : D' ≠ D := by rintro rfl; exact hn.1 hd
   exact ⟨D', rfl, a1, (World.putObj_heap_other hne).trans a2, a3, a4⟩
  ·refine hst _ F G w F _ hJ (Fz.le_refl _) H'.agree (fun a u b1 b2 => by rw [b1] at b2; cases b2) rfl rfl rfl (by simp) (fun b hb hg => World.putObj_heap_other ?_)
   rintro rfl
   rcases hg with hg | ⟨hg, _⟩
   ·exact h4 hg
   ·omega

theorem calls_of {f : FuncId} {fn : Func} {c : Code} {args : Array Value} {Rr : Ending → World → Prop} (hf : P.funcs[f]? = some fn) (hb : fn.body = some c)
  (h : c.wpIn (Fr none) 0 P (bodyPostM (Fr none) 0 P fn Rr) { tmps := args ++ Array.replicate (fn.ntmps - args.size) undef, defers := [] } w) : Calls P f args w Rr :=
 callsIn_wide.1 (callsIn_of_wp_marks hf hb trivial h)

def bodyQ (P : Program) (k : Nat) (rs : List ResultVar) (v : PV) (h' : Hp) : Exit → PS → Prop
 | .normal, s | .ret, s => ∃ s1, Weak P k s s1 ∧ ∃ p, resO P rs s1 = some p ∧ Weak P k ⟨[p], s1.heap⟩ ⟨[v], h'⟩
 | _, _ => False

def JTrue : Gh := fun _ _ G _ => G = fun _ => False
theorem JTrue.stable (B : Nat) (E : Nat → Prop) : Stable B E JTrue := fun _ _ _ _ _ _ h _ _ _ _ _ _ _ _ => h

theorem RTm.start {as : List PV} {us : List Value} (hus : RPs F φ h as us) (n : Nat) : RTm F φ h (as ++ List.replicate (n - as.length) pv_undef) (us.toArray ++ Array.replicate (n - us.toArray.size) undef) := by
 have hlen : us.toArray.size = as.length := by simpa using hus.1
 refine ⟨by simp [hus.1], fun i p u hp hu => ?_⟩
 rw [hlen] at hu
 by_cases hi : i < as.length
 ·rw [List.getElem?_append_left hi] at hp
  rw [Array.getElem?_append_left (by rw [hlen]; exact hi)] at hu
  exact hus.2 i p u hp (by simpa using hu)
 ·rw [List.getElem?_append_right (by omega), List.getElem?_replicate] at hp
  rw [Array.getElem?_append_right (by rw [hlen]; omega), Array.getElem?_replicate] at hu
  split at hp
  ·cases hp
   split at hu
   ·cases hu; exact undef_rep
   ·cases hu
  ·cases hp

theorem hcalls_of (hm : P.follows .mixedOrders = true) {f : FuncId} {fn : Func} {c : Code} {as : List PV} {v : PV} {k : Nat} (hf : P.funcs[f]? = some fn) (hb : fn.body = some c) (hname : (fn.name == "runtime.NumGoroutine") = false)
  (hk : ∀ id, k ≤ id → h id = .res) {σ0 : PS} (hw : Weak P k ⟨as ++ List.replicate (fn.ntmps - as.length) pv_undef, h⟩ σ0) (hp : pwp P ⟨noY, k, false⟩ c (bodyQ P k fn.results.toList v h') σ0) : HCalls P f as h v h' := by
 refine ⟨⟨fn, hf, by rw [hb]; rfl, hname⟩, fun w F φ us H hus => calls_of hf hb ?_⟩
 have hR : R P (loc w F φ h) JTrue ⟨as ++ List.replicate (fn.ntmps - as.length) pv_undef, h⟩ { tmps := us.toArray ++ Array.replicate (fn.ntmps - us.toArray.size) undef, defers := [] } w :=
  ⟨F, φ, fun _ => False, H, RTm.start hus _, fun b hb => hb.elim, ⟨List.nodup_nil, fun d hd => by cases hd⟩, rfl⟩
 have hst := JTrue.stable (loc w F φ h).w0.heap.size (loc w F φ h).E
 refine wpIn_mono (pwp_sound hm c ⟨noY, k, false⟩ _ none 0 (loc w F φ h) JTrue _ _ w noY_ok hst hk (fun e => by cases e) hp (hw _ _ _ _ hst hk hR)) fun e a' w' he => ?_
 obtain ⟨s, hs, hR'⟩ := he
 have fin : (∃ s1, Weak P k s s1 ∧ ∃ p, resO P fn.results.toList s1 = some p ∧ Weak P k ⟨[p], s1.heap⟩ ⟨[v], h'⟩) → LeavesInM (Fr none) 0 P fn a'.tmps (fun e w' => ∃ u F' φ', e = .returned u ∧ RH P (loc w F φ h) F' φ' h' w' ∧ RepP F' φ' h' v u) a'.defers .returning w' := by
  rintro ⟨s1, hweak0, p, hres, hweak⟩
  refine leaves hst (fun w2 hR2 => ?_) a'.defers w' (hweak0 _ _ _ _ hst hk hR')
  obtain ⟨F2, φ2, G2, H2, hr2, hid2, hm2, hJ2⟩ := hR2
  obtain ⟨u, hu, ru⟩ := run_results (fn := fn) H2 hr2 hres
  have hR3 : R P (loc w F φ h) JTrue ⟨[p], s1.heap⟩ { tmps := #[u], defers := [] } w2 :=
   ⟨F2, φ2, G2, H2, ⟨rfl, fun i q u' h1 h2 => by
    cases i with
    | zero => simp at h1 h2; subst h1; subst h2; exact ru
    | succ i => simp at h1⟩, hid2, hm2, hJ2⟩
  obtain ⟨F3, φ3, G3, H3, hr3, _⟩ := hweak _ _ _ _ hst hk hR3
  exact ⟨u, hu, u, F3, φ3, rfl, H3, hr3.2 0 v u rfl rfl⟩
 cases e with
 | normal => exact fin hs
 | ret => exact fin hs
 | _ => exact hs.elim

theorem ycalls_of (hm : P.follows .mixedOrders = true) {Y : YS} {f : FuncId} {fn : Func} {c : Code} {as : List PV} {v : PV} {k : Nat} (hf : P.funcs[f]? = some fn) (hb : fn.body = some c) (hname : (fn.name == "runtime.NumGoroutine") = false)
  (hk : ∀ id, k ≤ id → h id = .res) {σ0 : PS} (hw : Weak P k ⟨as ++ List.replicate (fn.ntmps - as.length) pv_undef, h⟩ σ0) (hp : pwp P ⟨Y, k, false⟩ c (bodyQ P k fn.results.toList v h') σ0) : YCalls P Y f as h v h' := by
 refine ⟨⟨fn, hf, by rw [hb]; rfl, hname⟩, fun J w F φ G us hst hY H hus hG hJ => calls_of hf hb ?_⟩
 have hR : R P (locG w F φ h G) J ⟨as ++ List.replicate (fn.ntmps - as.length) pv_undef, h⟩ { tmps := us.toArray ++ Array.replicate (fn.ntmps - us.toArray.size) undef, defers := [] } w :=
  ⟨F, φ, G, H, RTm.start hus _, fun b hb => ⟨(hG b hb).1, (hG b hb).2, .inr (.inr hb)⟩, ⟨List.nodup_nil, fun d hd => by cases hd⟩, hJ⟩
 refine wpIn_mono (pwp_sound hm c ⟨Y, k, false⟩ _ none 0 (locG w F φ h G) J _ _ w hY hst hk (fun e => by cases e) hp (hw _ _ _ _ hst hk hR)) fun e a' w' he => ?_
 obtain ⟨s, hs, hR'⟩ := he
 have fin : (∃ s1, Weak P k s s1 ∧ ∃ p, resO P fn.results.toList s1 = some p ∧ Weak P k ⟨[p], s1.heap⟩ ⟨[v], h'⟩) → LeavesInM (Fr none) 0 P fn a'.tmps (fun e w' => ∃ u F' φ' G', e = .returned u ∧ RH P (locG w F φ h G) F' φ' h' w' ∧ RepP F' φ' h' v u ∧ (∀ b, G' b → b < w'.heap.size ∧ ¬ own φ' h' b ∧ (w.heap.size ≤ b ∨ own φ h b ∨ G b)) ∧ J (cntOf h') F' G' w') a'.defers .returning w' := by
  rintro ⟨s1, hweak0, p, hres, hweak⟩
  refine leaves hst (fun w2 hR2 => ?_) a'.defers w' (hweak0 _ _ _ _ hst hk hR')
  obtain ⟨F2, φ2, G2, H2, hr2, hid2, hm2, hJ2⟩ := hR2
  obtain ⟨u, hu, ru⟩ := run_results (fn := fn) H2 hr2 hres
  have hR3 : R P (locG w F φ h G) J ⟨[p], s1.heap⟩ { tmps := #[u], defers := [] } w2 :=
   ⟨F2, φ2, G2, H2, ⟨rfl, fun i q u' h1 h2 => by
    cases i with
    | zero => simp at h1 h2; subst h1; subst h2; exact ru
    | succ i => simp at h1⟩, hid2, ⟨List.nodup_nil, fun d hd => by cases hd⟩, hJ2⟩
  obtain ⟨F3, φ3, G3, H3, hr3, hid3, hm3, hJ3⟩ := hweak _ _ _ _ hst hk hR3
  exact ⟨u, hu, u, F3, φ3, G3, rfl, H3, hr3.2 0 v u rfl rfl, fun b hb => hid3 b hb, hJ3⟩
 cases e with
 | normal => exact fin hs
 | ret => exact fin hs
 | _ => exact hs.elim

def cnt0 : Hp := fun i => if i = 0 then .cnt 0 else .res
def bodyI (m : Nat) : Exit → PS → Prop
 | .normal, s | .ret, s => s.heap 0 = .cnt m
 | _, _ => False
theorem iter_of (hm : P.follows .mixedOrders = true) {f : FuncId} {fn : Func} {c : Code} {pre caps : List TV} {xs : List (List TV)} (hf : P.funcs[f]? = some fn) (hb : fn.body = some c) (hname : (fn.name == "runtime.NumGoroutine") = false) (hres : fn.results.toList = [])
  (hp : ∀ (l m : Nat) (stop : Bool), m ≤ xs.length → (stop = false → m = xs.length) → (stop = true → 0 < m) →
   ∃ σ0, Weak P 1 ⟨(pre.map .t ++ .yld l :: caps.map .t) ++ List.replicate (fn.ntmps - (pre.length + (caps.length + 1))) pv_undef, cnt0⟩ σ0 ∧ pwp P ⟨⟨l, xs, m, stop⟩, 1, false⟩ c (bodyI m) σ0) : Iter P f pre caps xs := by
 refine ⟨⟨fn, hf, by rw [hb]; rfl, hname⟩, fun m stop h1 h2 h3 J l w F G vs us hst hY hag hG hgl hvs hus hJ => calls_of hf hb ?_⟩
 obtain ⟨σ0, hw, hp⟩ := hp l m stop h1 h2 h3
 let C : Cx := ⟨w, F, cnt0, fun _ => (0, 0), G⟩
 have hk : ∀ id, 1 ≤ id → C.h0 id = .res := fun id hid => if_neg (by omega)
 have hno : ∀ i, (cnt0 i).live = false := fun i => by unfold cnt0; split <;> rfl
 have H : RH P C F (fun _ => (0, 0)) cnt0 w := ⟨hag, Fz.le_refl _, fun a u h1 h2 => (by rw [show F a = none from h2] at h1; cases h1), fun id => (by unfold cnt0; split <;> trivial), fun i j li => (by rw [hno] at li; cases li), fun i li => (by rw [hno] at li; cases li), Bel.refl _ _, HStep.refl _ _, hgl⟩
 have hRPs : RPs F (fun _ => (0, 0)) cnt0 (pre.map .t ++ .yld l :: caps.map .t) (vs ++ .func (.yield l) #[] #[] :: us) := (RPs.of_t hvs.1 hvs.2).append (RPs.cons rfl (RPs.of_t hus.1 hus.2))
 have hR : R P C J ⟨(pre.map .t ++ .yld l :: caps.map .t) ++ List.replicate (fn.ntmps - (pre.length + (caps.length + 1))) pv_undef, cnt0⟩ { tmps := (vs ++ .func (.yield l) #[] #[] :: us).toArray ++ Array.replicate (fn.ntmps - (vs ++ .func (.yield l) #[] #[] :: us).toArray.size) undef, defers := [] } w := by
  refine ⟨F, fun _ => (0, 0), G, H, ?_, fun b hb => ⟨hG b hb, fun ⟨id, li, _⟩ => (by rw [hno] at li; cases li), .inr hb⟩, ⟨List.nodup_nil, fun d hd => by cases hd⟩, hJ⟩
  have := RTm.start hRPs fn.ntmps
  simpa using this
 refine wpIn_mono (pwp_sound hm c ⟨⟨l, xs, m, stop⟩, 1, false⟩ _ none 0 C J _ _ w hY hst hk (fun e => by cases e) hp (hw _ _ _ _ hst hk hR)) fun e a' w' he => ?_
 obtain ⟨s, hs, hR'⟩ := he
 have fin : s.heap 0 = .cnt m → LeavesInM (Fr none) 0 P fn a'.tmps (fun e w' => ∃ u F' G', e = .returned u ∧ J m F' G' w' ∧ F.le F' ∧ (∀ a u, F' a = some u → look w' a = some u) ∧ Bel G w w') a'.defers .returning w' := by
  intro hs
  refine leaves hst (fun w2 hR2 => ?_) a'.defers w' hR'
  obtain ⟨F2, φ2, G2, H2, hr2, hid2, hm2, hJ2⟩ := hR2
  obtain ⟨u, hu, ru⟩ := run_results (fn := fn) (r := .t (.tup [])) H2 hr2 (by rw [hres]; rfl)
  have e : cntOf s.heap = m := by unfold cntOf; rw [hs]
  rw [e] at hJ2
  exact ⟨u, hu, u, F2, G2, rfl, hJ2, H2.more, H2.agree, H2.bel⟩
 cases e with
 | normal => exact fin hs
 | ret => exact fin hs
 | _ => exact hs.elim

end Go.Pm
