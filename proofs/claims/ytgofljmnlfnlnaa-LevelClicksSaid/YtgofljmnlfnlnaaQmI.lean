/- The pure machine, part I: append, whatever it meets; every operation in one theorem. -/
import Derived.Test.YtgofljmnlfnlnaaQmMp
namespace Go.Pm
open Go Go.RowKit

variable {P : Program} {C : Cx} {F F' : Fz} {φ φ' φ'' : Nat → Nat × Nat} {h h' h'' : Hp} {w w' : World}

theorem wr_one (h : Hp) (x : Nat) (o : PO) : wr h [(x, o)] = upo h x o := rfl
/-- append to a row that is written, in place or not. -/
theorem sim_append_grow (H : RH P C F φ h w) {t ty e : TypeId} {i : TypeInfo} {z : Value} {sz by_ : Nat} (ht : P.underlying t = some (.slice e)) (hi : P.info? e = some i) (hz : i.zero = some z) (hsz : i.size = sz) (hzs : z.cells.size = sz) (hby : i.bytes = by_) (hb0 : 0 < by_)
    {id ver n m : Nat} {cells ds : List PV} {us : Value} (hid : h id = .grow ver cells e sz) (hs : RepP F φ h (.gsl id ver sz 0 n false) us) (hlen : cells.length = n * sz) {a : Addr} {c : Nat} {nu : List Value} (g1 : nu.length = m * sz) (g2 : RepG F φ h ds nu)
    (hcell : ∀ (i : Nat) (v : Value), nu[i]? = some v → w.cell? (a.add i) = some v) (hm : 0 < m) (hro : roomy (n + m) by_) :
    Sim P C h (((do pure (Next.value (← Builtin.append_ #[t, t] ty #[us, .slice (some a) m c]))) : Sem Next).run P w) (.gsl id (ver + 1) sz 0 (n + m) false) [(id, .grow (ver + 1) (cells ++ ds) e sz)] := by
  have hob := H.objs id
  rw [hid] at hob
  obtain ⟨cur, k1, k2, k3, k4, k5, k6⟩ := hob
  have hlv : (h id).live = true := by rw [hid]; rfl
  obtain ⟨v, e', cap, ad, q1, q2, rfl, q4, q5, q6, q7⟩ := hs
  rw [hid] at q1; cases q1
  obtain ⟨p1, p2, p3⟩ := q7 rfl
  have hcap : cap = (φ id).2 := by have := p3 rfl; omega
  have hmul : (n + m) * sz = n * sz + m * sz := Nat.add_mul _ _ _
  have hmax : n + m ≤ 140737488355328 := roomy_le hb0 hro
  have hst : ∀ x, HStep φ (upd φ id x) h (upo h id (.grow (ver + 1) (cells ++ ds) e sz)) := fun x => HStep.one x (by rw [hid]; exact ⟨ver + 1, rfl, by omega, fun e => by omega⟩)
  have hF : ∀ a u, F a = some u → a.block ≠ (φ id).1 := by
    intro a u hu e
    have hc := H.agree _ _ hu
    obtain ⟨b, o, s⟩ := a
    simp only at e; subst e
    cases s with
    | none => rw [k6] at hu; cases hu
    | some s => simp [World.cell?, k1] at hc
  by_cases hroom : n + m ≤ cap
  · have ha : ad = ⟨(φ id).1, 0, none⟩ := by have := p2 (by omega); simpa using this
    subst ha
    have hle : (n + m) * sz ≤ (φ id).2 * sz := Nat.mul_le_mul_right _ (by omega)
    have hrun := run_append_room (P := P) w t ty e i ht hi (φ id).1 n cap cur.toArray k1 a m c nu (by rw [hsz]; exact g1) hcell (fun u hu => by
      obtain ⟨j, hj, rfl⟩ := List.getElem_of_mem hu
      have hj' : j < ds.length := by have := g2.1; omega
      exact (g2.2 j _ _ (List.getElem?_eq_getElem hj') (List.getElem?_eq_getElem hj)).2) hroom (by
        rw [hsz, g1]; simp only [List.size_toArray, k2]; omega)
    rw [hsz, g1] at hrun
    have hlc : (cur.take (n * sz)).length = n * sz := by rw [List.length_take]; omega
    have hll : (cur.take (n * sz) ++ nu ++ cur.drop (n * sz + m * sz)).length = (φ id).2 * sz := by
      simp only [List.length_append, List.length_take, List.length_drop, g1]; omega
    have hsame : (w.setRow (φ id).1 (cur.take (n * sz) ++ nu ++ cur.drop (n * sz + m * sz)).toArray).heap[(φ id).1]? = some (.cells (cur.take (n * sz) ++ nu ++ cur.drop (n * sz + m * sz)).toArray e (0, 0)) := setRow_heap w _ _ _ _ _ k1
    refine ⟨F, upd φ id (φ id), .slice (some ⟨(φ id).1, 0, none⟩) (n + m) cap, w.setRow (φ id).1 (cur.take (n * sz) ++ nu ++ cur.drop (n * sz + m * sz)).toArray, .inl ?_,
      H.put _ _ (hst _) (Fz.le_refl _) (fun a u hu => ?_) (fun a u e1 e2 => by rw [e1] at e2; cases e2) (bel_setRow w _ _ ⟨rfl, hlv⟩) (.inr ⟨rfl, hlv⟩) ?_, ?_⟩
    · simp only [Sem.run_bind, hrun, Result.andThen_ok, Sem.run_pure]
    · have := H.agree _ _ hu
      unfold World.cell? at this ⊢
      rw [setRow_other w _ _ _ (hF a u hu)]; exact this
    · rw [upd_self]
      refine ⟨_, hsame, hll, by rw [hll, List.length_append, g2.1.symm, g1]; omega, k4, fun j p u hp hu => ?_, k6⟩
      by_cases hj : j < n * sz
      · rw [List.getElem?_append_left (by omega)] at hp
        rw [List.append_assoc, List.getElem?_append_left (by omega), List.getElem?_take, if_pos hj] at hu
        exact ⟨(k5 j p u hp hu).1.step (by have := hst (φ id); rwa [upd_self] at this), (k5 j p u hp hu).2⟩
      · rw [List.getElem?_append_right (by omega), hlen] at hp
        have hj2 : j - n * sz < nu.length := by have := (List.getElem?_eq_some_iff.1 hp).1; have := g2.1; omega
        rw [List.append_assoc, List.getElem?_append_right (by omega), hlc, List.getElem?_append_left hj2] at hu
        exact ⟨(g2.2 _ p u hp hu).1.step (by have := hst (φ id); rwa [upd_self] at this), (g2.2 _ p u hp hu).2⟩
    · refine ⟨ver + 1, e, cap, _, by rw [wr_one, upo_same]; rfl, Nat.le_refl _, rfl, hroom, q5, fun e => (by cases e), fun _ => ?_⟩
      rw [upd_same]; exact ⟨by omega, fun _ => by simp, fun _ => by omega⟩
  · have hg : cap < n + m := by omega
    have hod : RepG F φ h cells (cur.take (n * sz)) := ⟨by rw [List.length_take]; omega, fun j p u hp hu => by
      rw [List.getElem?_take] at hu
      split at hu
      · exact k5 j p u hp hu
      · cases hu⟩
    have hoc : ∀ (j : Nat) (v : Value), (cur.take (n * sz))[j]? = some v → w.cell? (ad.add j) = some v := by
      intro j v hv
      have hj : j < n * sz := by have := (List.getElem?_eq_some_iff.1 hv).1; rw [List.length_take] at this; omega
      have hn0 : 0 < n := by
        rcases Nat.eq_zero_or_pos n with h0 | h0
        · subst h0; omega
        · exact h0
      rw [addr_add_spot (p2 (by omega)), cell_at k1]
      rw [List.getElem?_take, if_pos hj] at hv
      simpa using hv
    have hrun := run_append_grow (P := P) w t ty e i z ht hi hz ad n cap (cur.take (n * sz)) (by rw [hsz, List.length_take]; omega) hoc a m c nu (by rw [hsz]; exact g1) hcell hg (by omega)
      (growslice_fits hg (by rw [hby]; exact hro))
    generalize hrest : (Builtin.zeroCells z.cells (grownCap w (n + m) cap e - (n + m))).toList = rest at *
    have hrl : (cur.take (n * sz) ++ nu).length + rest.length = grownCap w (n + m) cap e * sz := by
      rw [← hrest]
      exact rest_len hzs (by simp only [List.length_append, List.length_take, g1]; omega)
    have hnew := H.drew.allocGrow (rid := id) (v := ver + 1) (sz := sz) (cur.take (n * sz) ++ nu ++ rest) e (grownCap w (n + m) cap e) (cells ++ ds) (hst _) (by rw [List.length_append]; exact hrl) (by have := g2.1; simp only [List.length_append, List.length_take]; omega) k4 (fun j p u hp hu => by
      have hj : j < (cur.take (n * sz) ++ nu).length := by have := (List.getElem?_eq_some_iff.1 hp).1; have := g2.1; have := hod.1; simp only [List.length_append] at *; omega
      rw [List.getElem?_append_left hj] at hu
      exact (hod.append g2).2 j p u hp hu)
    refine ⟨F, _, .slice (some ⟨w.heap.size, 0, none⟩) (n + m) (grownCap w (n + m) cap e), _, .inl ?_, hnew, ver + 1, e, _, _, by rw [wr_one, upo_same]; rfl, Nat.le_refl _, rfl, grownCap_ge _ _ _ _, grownCap_le_maxLen _ _ _ _ (by unfold maxLen; omega), fun e => (by cases e), fun _ => ?_⟩
    · simp only [Sem.run_bind, hrun, Result.andThen_ok, Sem.run_pure]
      congr 3
      apply Array.ext'; simp [← hrest]
    · have e : (upd φ id (w.drew.heap.size, grownCap w (n + m) cap e)) id = (w.heap.size, grownCap w (n + m) cap e) := upd_same _ _
      rw [e]; exact ⟨by simp, fun _ => by simp, fun _ => by simp⟩

theorem sim_appendG (H : RH P C F φ h w) {mu : Bool} {t t' ty : TypeId} {s x v : PV} {us ux : Value} {rid : Nat} {W : Wr} (hv : appendG P mu t t' s x h rid = some (v, W)) (hs : RepP F φ h s us) (hx : RepP F φ h x ux) :
    Sim P C h (((do pure (Next.value (← Builtin.append_ #[t, t'] ty #[us, ux]))) : Sem Next).run P w) v W := by
  unfold appendG at hv
  split at hv
  · rename_i htt; subst htt
    split at hv
    · cases hv
    · rename_i e he
      split at hv
      · cases hv
      · rename_i sz by_ hsm
        obtain ⟨i, z, hi, hz, hsz, hzs, hpos, hby, hb0, hco⟩ := smallO_some hsm
        have ht := sliceO_some he
        split at hv
        · cases hv
        · rename_i ds m hsrc
          have hsrc' := srcG_some H hsrc hx
          have hzero : m = 0 → (ux = .slice none 0 0 ∨ ∃ a k, ux = .slice (some a) 0 k) := by
            intro hm
            rcases hsrc' with ⟨rfl, _, _⟩ | ⟨a, c, nu, rfl, _⟩
            · exact .inl rfl
            · subst hm; exact .inr ⟨a, c, rfl⟩
          split at hv
          · -- nil
            cases hs
            split at hv
            · rename_i hm
              cases hv
              have := append_none_run (P := P) (w := w) (ty := ty) ht hi none 0 0 (Nat.le_refl _) ux (hzero hm)
              exact Sim.quiet H (u := .slice none 0 0) (by simp [this]) .nilSl
            · rename_i hm
              split at hv
              · rename_i hc
                rcases hsrc' with ⟨_, _, h0⟩ | ⟨a, c, nu, rfl, g1, g2, g4⟩
                · exact absurd h0 hm
                · have hmax : m ≤ 140737488355328 := roomy_le hb0 hc.1
                  have hrun := run_append_nil (P := P) w t ty e i z ht hi hz a m c nu (by rw [hsz]; exact g1) g4 (Nat.pos_of_ne_zero hm) (by omega)
                    (Nat.le_trans (by rw [hby]; exact hc.1) (by decide))
                  refine sim_fresh H (cap := grownCap w m 0 e) (rest := (Builtin.zeroCells z.cells (grownCap w m 0 e - m)).toList) hv (isRes_iff.1 hc.2) g2 g1 (rest_len hzs g1) (Nat.pos_of_ne_zero hm) (grownCap_ge _ _ _ _) (grownCap_le_maxLen _ _ _ _ (by unfold maxLen; omega)) hco ?_
                  simp only [Sem.run_bind, hrun, Result.andThen_ok, Sem.run_pure]
                  congr 3
                  apply Array.ext'; simp
              · cases hv
          · -- a row whose capacity is its length
            rename_i cs n
            split at hv
            · rename_i hlen
              split at hv
              · rename_i hm
                cases hv
                have hs' := hs
                cases hs with
                | sl _ _ _ ad cap uu hul hF hrr h1 h2 h3 =>
                  have := append_none_run (P := P) (w := w) (ty := ty) ht hi (some ad) n cap h1 ux (hzero hm)
                  exact Sim.quiet H (u := .slice (some ad) n cap) (by simp [this]) hs'
              · rename_i hm
                split at hv
                · rename_i hc
                  cases hs with
                  | sl _ _ _ ad cap uu hul hF hrr h1 h2 h3 =>
                    have hcap : cap = n := h2 rfl
                    subst hcap
                    rcases hsrc' with ⟨_, _, h0⟩ | ⟨a, c, nu, rfl, g1, g2, g4⟩
                    · exact absurd h0 hm
                    · have hmax := roomy_le hb0 hc.1
                      have hg : cap < cap + m := by omega
                      have hrun := run_append_grow (P := P) w t ty e i z ht hi hz ad cap cap uu (by rw [hsz]; omega) (fun j u hu => H.agree _ _ (hF j u hu).1) a m c nu (by rw [hsz]; exact g1) g4 hg (by omega)
                        (growslice_fits hg (by rw [hby]; exact hc.1))
                      have hlu : uu.length + nu.length = (cap + m) * sz := by rw [Nat.add_mul, hul, hlen, g1]
                      refine sim_fresh H (cap := grownCap w (cap + m) cap e) (us := uu ++ nu) (rest := (Builtin.zeroCells z.cells (grownCap w (cap + m) cap e - (cap + m))).toList) hv (isRes_iff.1 hc.2) ((RepG.of_t ⟨hul, hrr⟩ (fun i u hu => (hF i u hu).2)).append g2)
                        (by rw [List.length_append]; exact hlu) (rest_len hzs (by rw [List.length_append]; exact hlu)) (by omega) (grownCap_ge _ _ _ _) (grownCap_le_maxLen _ _ _ _ (by unfold maxLen; omega)) hco ?_
                      simp only [Sem.run_bind, hrun, Result.andThen_ok, Sem.run_pure]
                      congr 3
                      apply Array.ext'; simp
                · cases hv
            · cases hv
          · -- a written row whose capacity is its length
            rename_i id ver sz' o n
            split at hv
            · rename_i cells hg
              split at hv
              · rename_i hlen
                obtain ⟨rfl, hle⟩ := hlen
                split at hv
                · rename_i hm
                  cases hv
                  have hs' := hs
                  obtain ⟨v, e', cap, ad, q1, q2, rfl, q4, q5, q6, q7⟩ := hs
                  have := append_none_run (P := P) (w := w) (ty := ty) ht hi (some ad) n cap q4 ux (hzero hm)
                  exact Sim.quiet H (u := .slice (some ad) n cap) (by simp [this]) hs'
                · rename_i hm
                  split at hv
                  · rename_i hc
                    obtain ⟨cur, e2, sz2, g0, k1, k2, k3, k4, k5⟩ := row_at H hg
                    obtain ⟨v', e', cap, ad, q1, q2, rfl, q4, q5, q6, q7⟩ := hs
                    rw [g0] at q1; cases q1
                    obtain ⟨p1, p2, p3⟩ := q7 rfl
                    have hcap : cap = n := q6 rfl
                    subst hcap
                    rcases hsrc' with ⟨_, _, h0⟩ | ⟨a, c, nu, rfl, g1, g2, g4⟩
                    · exact absurd h0 hm
                    · have hmax := roomy_le hb0 hc.1
                      have hg' : cap < cap + m := by omega
                      have hmul : (o + cap) * sz' = o * sz' + cap * sz' := Nat.add_mul _ _ _
                      have hod : RepG F φ h ((cells.drop (o * sz')).take (cap * sz')) ((cur.drop (o * sz')).take (cap * sz')) := RepG.drop_take k5 k3 (by omega)
                      have hol : ((cur.drop (o * sz')).take (cap * sz')).length = cap * sz' := by simp only [List.length_take, List.length_drop]; omega
                      have hrun := run_append_grow (P := P) w t ty e i z ht hi hz ad cap cap ((cur.drop (o * sz')).take (cap * sz')) (by rw [hsz]; exact hol) (fun j u hu => by
                        rw [List.getElem?_take] at hu
                        split at hu
                        · rw [List.getElem?_drop] at hu
                          have h0 : 0 < cap := by
                            rcases Nat.eq_zero_or_pos cap with h0 | h0
                            · subst h0; omega
                            · exact h0
                          rw [addr_add_spot (p2 h0), cell_at k1]; exact hu
                        · cases hu) a m c nu (by rw [hsz]; exact g1) g4 hg' (by omega)
                        (growslice_fits hg' (by rw [hby]; exact hc.1))
                      have hlu : ((cur.drop (o * sz')).take (cap * sz')).length + nu.length = (cap + m) * sz' := by rw [Nat.add_mul, hol, g1]
                      refine sim_fresh H (cap := grownCap w (cap + m) cap e) (us := (cur.drop (o * sz')).take (cap * sz') ++ nu) (rest := (Builtin.zeroCells z.cells (grownCap w (cap + m) cap e - (cap + m))).toList) hv (isRes_iff.1 hc.2) (hod.append g2)
                        (by rw [List.length_append]; exact hlu) (rest_len hzs (by rw [List.length_append]; exact hlu)) (by omega) (grownCap_ge _ _ _ _) (grownCap_le_maxLen _ _ _ _ (by unfold maxLen; omega)) hco ?_
                      simp only [Sem.run_bind, hrun, Result.andThen_ok, Sem.run_pure]
                      congr 3
                      apply Array.ext'; simp
                  · cases hv
              · cases hv
            · cases hv
          · -- a written row
            rename_i id ver sz' n
            split at hv
            · rename_i cells hg
              have hid := growIs_eq hg
              split at hv
              · rename_i hlen
                obtain ⟨rfl, hle⟩ := hlen
                split at hv
                · rename_i hm
                  cases hv
                  have hs' := hs
                  obtain ⟨v, e', cap, ad, q1, q2, rfl, q4, q5, q6, q7⟩ := hs
                  have := append_none_run (P := P) (w := w) (ty := ty) ht hi (some ad) n cap q4 ux (hzero hm)
                  exact Sim.quiet H (u := .slice (some ad) n cap) (by simp [this]) hs'
                · rename_i hm
                  split at hv
                  · rename_i hc
                    cases hv
                    rcases hsrc' with ⟨_, _, h0⟩ | ⟨a, c, nu, rfl, g1, g2, g4⟩
                    · exact absurd h0 hm
                    · exact sim_append_grow H ht hi hz hsz hzs hby hb0 hid hs hle g1 g2 g4 (Nat.pos_of_ne_zero hm) hc
                  · cases hv
              · cases hv
            · cases hv
          · -- a row of our own
            rename_i cs n id
            split at hv
            · rename_i ds' hds
              split at hv
              · rename_i hlt
                obtain ⟨hlen, htok⟩ := hlt
                have hid := tokIs_eq htok
                rcases Nat.eq_zero_or_pos n with hn0 | hn0
                · subst hn0
                  obtain ⟨hcs, hus⟩ := hs.1 rfl
                  subst hcs; subst hus
                  split at hv
                  · rename_i hm
                    cases hv
                    have := append_none_run (P := P) (w := w) (ty := ty) ht hi none 0 0 (Nat.le_refl _) ux (hzero hm)
                    exact Sim.quiet H (u := .slice none 0 0) (by simp [this]) hs
                  · rename_i hm
                    split at hv
                    · rename_i hc
                      simp only [Nat.zero_add, List.nil_append, Option.some.injEq, Prod.mk.injEq] at hv hc
                      obtain ⟨rfl, rfl⟩ := hv
                      rcases hsrc' with ⟨_, _, h0⟩ | ⟨a, c, nu, rfl, g1, g2', g4⟩
                      · exact absurd h0 hm
                      · have hmax : m ≤ 140737488355328 := roomy_le hb0 hc
                        obtain ⟨g2, g3⟩ := g2'.toL hds
                        have hrun := run_append_nil (P := P) w t ty e i z ht hi hz a m c nu (by rw [hsz]; exact g1) g4 (Nat.pos_of_ne_zero hm) (by omega)
                          (Nat.le_trans (by rw [hby]; exact hc) (by decide))
                        refine sim_newTok H (cap := grownCap w m 0 e) (rest := (Builtin.zeroCells z.cells (grownCap w m 0 e - m)).toList) (HStep.one _ (by rw [hid]; exact ⟨m, rfl, by omega, fun e => by omega⟩)) g2 g3 (by rw [hco]; exact g1) (by rw [hco]; exact rest_len hzs g1) (Nat.pos_of_ne_zero hm) (grownCap_ge _ _ _ _) (grownCap_le_maxLen _ _ _ _ (by unfold maxLen; omega)) ?_
                        simp only [Sem.run_bind, hrun, Result.andThen_ok, Sem.run_pure]
                        congr 3
                        apply Array.ext'; simp
                    · cases hv
                have hs0 := hs
                obtain ⟨_, hsl, m0, e0, h01, h02, hval⟩ := hs
                have hsl := hsl hn0
                rw [hid] at h01; cases h01
                have hu := hval rfl hn0
                subst hu
                split at hv
                · rename_i hm
                  cases hv
                  cases hsl with
                  | sl _ _ _ _ _ uu hul hF hrr h1 h2 h3 =>
                    have := append_none_run (P := P) (w := w) (ty := ty) ht hi (some ⟨(φ id).1, 0, none⟩) n (φ id).2 h1 ux (hzero hm)
                    exact Sim.quiet H (u := .slice (some ⟨(φ id).1, 0, none⟩) n (φ id).2) (by simp [this]) hs0
                · rename_i hm
                  split at hv
                  · rename_i hc
                    cases hv
                    cases hsl with
                    | sl _ _ _ _ _ uu hul hF hrr h1 h2 h3 =>
                      rcases hsrc' with ⟨_, _, h0⟩ | ⟨a, c, nu, rfl, g1, g2', g4⟩
                      · exact absurd h0 hm
                      · have hmax := roomy_le hb0 hc
                        obtain ⟨g2, g3⟩ := g2'.toL hds
                        have ho1 : Ones uu := fun i u hu => (hF i u hu).2
                        by_cases hroom : n + m ≤ (φ id).2
                        · refine sim_append_room H hid ⟨hul, hrr⟩ ho1 (by rw [hco]; omega) (fun i v hv => by have := (hF i v hv).1; rwa [add_plain, Nat.zero_add] at this) g2 g3 (by rw [hco]; exact g1) hn0 (Nat.pos_of_ne_zero hm) hroom h3 ?_
                          intro cur hcur
                          have hle : (n + m) * sz ≤ (φ id).2 * sz := Nat.mul_le_mul_right _ hroom
                          have hob := H.objs id
                          rw [hid] at hob
                          obtain ⟨cur', k1, k2, _, _⟩ := hob hn0
                          have hcc : cur = cur' := by rw [hcur] at k1; simpa using k1
                          subst hcc
                          have hrun := run_append_room (P := P) w t ty e i ht hi (φ id).1 n (φ id).2 cur.toArray hcur a m c nu (by rw [hsz]; exact g1) g4 (fun u hu => by
                            obtain ⟨j, hj, rfl⟩ := List.getElem_of_mem hu
                            exact g3 j _ (List.getElem?_eq_getElem hj)) hroom (by
                              rw [hsz, g1, ← Nat.add_mul]; simp only [List.size_toArray, k2, hco]; exact hle)
                          simp only [Sem.run_bind, hrun, Result.andThen_ok, Sem.run_pure, hsz, hco]
                        · have hg : (φ id).2 < n + m := by omega
                          have hrun := run_append_grow (P := P) w t ty e i z ht hi hz ⟨(φ id).1, 0, none⟩ n (φ id).2 uu (by rw [hsz]; omega) (fun j u hu => H.agree _ _ (hF j u hu).1) a m c nu (by rw [hsz]; exact g1) g4 hg (by omega)
                            (growslice_fits hg (by rw [hby]; exact hc))
                          have hlu : uu.length + nu.length = (n + m) * sz := by rw [Nat.add_mul, hul, hlen, g1]
                          refine sim_newTok H (cap := grownCap w (n + m) (φ id).2 e) (rest := (Builtin.zeroCells z.cells (grownCap w (n + m) (φ id).2 e - (n + m))).toList) (HStep.one _ (by rw [hid]; exact ⟨n + m, rfl, by omega, fun e => by omega⟩)) (RepL.append ⟨hul, hrr⟩ g2) (Ones.append ho1 g3)
                            (by rw [hco, List.length_append]; exact hlu) ?_ (by omega) (grownCap_ge _ _ _ _) (grownCap_le_maxLen _ _ _ _ (by unfold maxLen; omega)) ?_
                          · rw [hco]; exact rest_len hzs (by rw [List.length_append]; exact hlu)
                          · simp only [Sem.run_bind, hrun, Result.andThen_ok, Sem.run_pure]
                            congr 3
                            apply Array.ext'; simp
                  · cases hv
              · cases hv
            · cases hv
          · cases hv
  · cases hv

theorem RepT.int_inv {k : IntKind} {n : Int} {u : Value} (hr : RepT F (.int k n) u) : u = .int k n := by cases hr; rfl
theorem RepT.bool_inv {b : Bool} {u : Value} (hr : RepT F (.bool b) u) : u = .bool b := by cases hr; rfl

theorem strip_rep {b : Bool} {p : PV} {u : Value} (hb : b = true) (hr : RepP F φ h p u) : RepP F φ h (strip b p) u := by
  unfold strip
  split
  · rename_i b' q
    cases e : b' == b with
    | false => exact hr
    | true =>
      have : b' = b := by simpa using e
      exact hr.1 (by rw [this]; exact hb)
  · exact hr
theorem pickP_rep {c : Bool} {p q : PV} {u v : Value} (hp : RepP F φ h p u) (hq : RepP F φ h q v) : RepP F φ h (pickP c p q) (if c then u else v) := by
  cases c with
  | true =>
    have h1 := strip_rep (b := true) rfl hp
    unfold pickP
    split
    · rename_i x y hx hy
      rw [hx] at h1
      simpa using h1
    · simpa using h1
  | false =>
    have h1 := strip_rep (b := true) rfl hq
    unfold pickP
    split
    · rename_i x y hx hy
      simp only [Bool.not_false] at hy
      rw [hy] at h1
      simpa using h1
    · simpa using h1

theorem sim_gnil {xt e : TypeId} {x y : Operand} {ux uy : Value} {a : Addr} {n cap : Nat} (he : P.underlying xt = some (.slice e)) (hx : ux = .slice (some a) n cap) (hy : uy = .slice none 0 0) :
    (((do eqGuard .eql xt x y ux uy; pure (Next.value (← binOp .eql xt ux uy))) : Sem Next).run P w = .ok (.value (.bool false)) w) ∧ (((do eqGuard .neq xt x y ux uy; pure (Next.value (← binOp .neq xt ux uy))) : Sem Next).run P w = .ok (.value (.bool true)) w) := by
  subst hx; subst hy
  have h1 : ∀ op, (eqGuard op xt x y (.slice (some a) n cap) (.slice none 0 0)).run P w = .ok () w := fun op => run_eqGuard (by simp) (.inl (by simp))
  have h2 : (Op.equal xt (.slice (some a) n cap) (.slice none 0 0)).run P w = .ok false w := by
    unfold Op.equal Op.maxDepth
    rw [show (10000 : Nat) = 9999 + 1 from rfl]
    unfold Op.equalIn
    simp only [Sem.run_bind, run_underlying' he, Result.andThen_ok, Sem.run_pure]
  constructor
  · simp [h1, binOp, h2]
  · simp [h1, binOp, h2]
theorem sim_nilnil {xt e : TypeId} {x y : Operand} {ux uy : Value} (he : P.underlying xt = some (.slice e)) (hx : ux = .slice none 0 0) (hy : uy = .slice none 0 0) :
    (((do eqGuard .eql xt x y ux uy; pure (Next.value (← binOp .eql xt ux uy))) : Sem Next).run P w = .ok (.value (.bool true)) w) ∧ (((do eqGuard .neq xt x y ux uy; pure (Next.value (← binOp .neq xt ux uy))) : Sem Next).run P w = .ok (.value (.bool false)) w) := by
  subst hx; subst hy
  have h1 : ∀ op, (eqGuard op xt x y (.slice none 0 0) (.slice none 0 0)).run P w = .ok () w := fun op => run_eqGuard (by simp) (.inl (by simp))
  have h2 : (Op.equal xt (.slice none 0 0) (.slice none 0 0)).run P w = .ok true w := by
    unfold Op.equal Op.maxDepth
    rw [show (10000 : Nat) = 9999 + 1 from rfl]
    unfold Op.equalIn
    simp only [Sem.run_bind, run_underlying' he, Result.andThen_ok, Sem.run_pure]
    rfl
  constructor
  · simp [h1, binOp, h2]
  · simp [h1, binOp, h2]
theorem mkV_inj {b b' : Bool} {us us' : List Value} (h : mkV b us = mkV b' us') : us = us' := by
  cases b <;> cases b' <;> simp [mkV] at h <;> exact h
theorem nthP_rep : ∀ {p : PV} {i : Nat} {x : PV} {u : Value}, nthP p i = some x → RepP F φ h p u → ∀ {b : Bool} {us : List Value}, u = mkV b us → ∃ z, us[i]? = some z ∧ RepP F φ h x z
  | .cons b p q, 0, x, u, hn, hr, b', us', hu' => by
    simp [nthP] at hn; subst hn
    obtain ⟨v, us, hu, r1, _⟩ := hr
    rw [hu'] at hu
    rw [mkV_inj hu]
    exact ⟨v, rfl, r1⟩
  | .cons b p q, i + 1, x, u, hn, hr, b', us', hu' => by
    obtain ⟨v, us, hu, r1, r2, _⟩ := hr
    rw [hu'] at hu
    rw [mkV_inj hu]
    obtain ⟨z, hz, rz⟩ := nthP_rep (p := q) (by simpa [nthP] using hn) r2 rfl
    exact ⟨z, by simpa using hz, rz⟩
  | .t _, _, _, _, hn, _, _, _, _ => by simp [nthP] at hn
  | .ptr _ _, _, _, _, hn, _, _, _, _ => by simp [nthP] at hn
  | .own _ _ _, _, _, _, hn, _, _, _, _ => by simp [nthP] at hn
  | .fnc _ _, _, _, _, hn, _, _, _, _ => by simp [nthP] at hn
  | .yld _, _, _, _, hn, _, _, _, _ => by simp [nthP] at hn
  | .cond _ _, _, _, _, hn, _, _, _, _ => by simp [nthP] at hn
  | .gsl _ _ _ _ _ _, _, _, _, hn, _, _, _, _ => by simp [nthP] at hn
  | .gptr _ _ _, _, _, _, hn, _, _, _, _ => by simp [nthP] at hn
  | .mapr _, _, _, _, hn, _, _, _, _ => by simp [nthP] at hn
  | .nil _, _, _, _, hn, _, _, _, _ => by simp [nthP] at hn
  | .junk, _, _, _, hn, _, _, _, _ => by simp [nthP] at hn

/-- EVERY OPERATION BUT A CALL OF A FUNCTION OF THE PROGRAM. -/
theorem pop_sim (H : RH P C F φ h w) {ρp : Operand → PV} {ρv : Operand → Value} (hρ : ∀ x, RepP F φ h (ρp x) (ρv x)) {o : Oper} {v : PV} {rid : Nat} {W : Wr} (hp : pop P o.op ρp h rid = some (v, W)) :
    Sim P C h ((execOp ρv o).run P w) v W := by
  obtain ⟨dst, op, type, pos, after, guard⟩ := o
  simp only at hp
  unfold pop at hp
  split at hp
  · simp at hp; obtain ⟨rfl, rfl⟩ := hp; exact Sim.quiet H rfl (hρ _)
  · simp at hp; obtain ⟨rfl, rfl⟩ := hp; exact Sim.quiet H rfl (hρ _)
  · rename_i c a b
    have hc := hρ c
    split at hp
    · rename_i cb hcb
      rw [hcb] at hc
      have hc' : ρv c = .bool cb := RepT.bool_inv hc
      simp at hp; obtain ⟨rfl, rfl⟩ := hp
      refine Sim.quiet H (u := if cb then ρv a else ρv b) ?_ (pickP_rep (hρ a) (hρ b))
      simp [execOp, hc', asBool]
    · cases hp
  · rename_i e
    cases hz : zeroL P e with
    | none => rw [hz] at hp; simp at hp
    | some z =>
      rw [hz] at hp; simp only [Option.bind_some] at hp
      split at hp
      · rename_i hres
        simp at hp; obtain ⟨rfl, rfl⟩ := hp
        exact sim_alloc H hz (isRes_iff.1 hres)
      · cases hp
  · rename_i e x
    cases hz : pcells (ρp x) with
    | none => rw [hz] at hp; simp at hp
    | some z =>
      rw [hz] at hp; simp only [Option.bind_some] at hp
      split at hp
      · rename_i hres
        simp at hp; obtain ⟨rfl, rfl⟩ := hp
        exact sim_box H hz (hρ x) (isRes_iff.1 hres)
      · cases hp
  · rename_i t parts
    cases hz : partsO ρp parts with
    | none => rw [hz] at hp; simp at hp
    | some ps =>
      rw [hz] at hp; simp only [Option.bind_some, Option.map_eq_some_iff] at hp
      obtain ⟨x, hx, he⟩ := hp
      simp at he; obtain ⟨rfl, rfl⟩ := he
      exact sim_build H hρ hz hx
  · rename_i t n parts
    cases hz : partsO ρp parts with
    | none => rw [hz] at hp; simp at hp
    | some ps =>
      rw [hz] at hp; simp only [Option.bind_some, Option.map_eq_some_iff] at hp
      obtain ⟨x, hx, he⟩ := hp
      simp at he; obtain ⟨rfl, rfl⟩ := he
      exact sim_buildSlice H hρ hz hx
  · rename_i t l c
    have hl := hρ l
    have hc := hρ c
    split at hp
    · rename_i kl l' kc c' hpl hpc
      rw [hpl] at hl; rw [hpc] at hc
      have ul : ρv l = .int kl l' := RepT.int_inv hl
      have uc : ρv c = .int kc c' := RepT.int_inv hc
      split at hp
      · rename_i e he
        split at hp
        · rename_i sz by_ z hsm hz
          split at hp
          · rename_i hcond
            obtain ⟨h0, hlc, hro, hres, hzl⟩ := hcond
            simp at hp; obtain ⟨rfl, rfl⟩ := hp
            have := sim_makeSlice (kl := kl) (kc := kc) H he hsm hz h0 hlc hro (isRes_iff.1 hres)
            rw [← ul, ← uc] at this
            exact this
          · cases hp
        · cases hp
      · cases hp
    · cases hp
  · rename_i t
    split at hp
    · split at hp
      · rename_i hres
        simp at hp; obtain ⟨rfl, rfl⟩ := hp
        exact sim_makeMap H (isRes_iff.1 hres)
      · cases hp
    · cases hp
  · exact sim_update H hp (hρ _) (hρ _) (hρ _)
  · exact sim_update H hp (hρ _) (hρ _) (hρ _)
  · rename_i t m k ok
    have hm := hρ m
    split at hp
    · rename_i id k' kt et hpm hpk ht
      rw [hpm] at hm
      split at hp
      · rename_i t' f z hid hz
        split at hp
        · rename_i hc
          obtain ⟨rfl, hk⟩ := hc
          simp only [Option.some.injEq, Prod.mk.injEq] at hp
          obtain ⟨rfl, rfl⟩ := hp
          exact sim_lookup H ht hid hz hk hm (PV.toT_rep hpk (hρ k))
        · cases hp
      · cases hp
    · rename_i k' kt et hpm hpk ht
      rw [hpm] at hm
      have um : ρv m = .map none := by generalize ρv m = u at hm; cases hm; rfl
      split at hp
      · rename_i z hz
        split at hp
        · rename_i hk
          simp only [Option.some.injEq, Prod.mk.injEq] at hp
          obtain ⟨rfl, rfl⟩ := hp
          have := sim_lookup_nil (ok := ok) H ht hz hk (PV.toT_rep hpk (hρ k))
          rw [← um] at this
          exact this
        · cases hp
      · cases hp
    · cases hp
  · rename_i t a
    have ha := hρ a
    split at hp
    · rename_i id ver off hpa
      rw [hpa] at ha
      simp only [Option.bind_eq_some_iff, Option.map_eq_some_iff] at hp
      obtain ⟨cells, hcells, x, hx, he⟩ := hp
      simp at he; obtain ⟨rfl, rfl⟩ := he
      exact sim_load_gptr H hcells ha hx
    · rename_i id off hpa
      rw [hpa] at ha
      obtain ⟨hb, hu⟩ := ha
      split at hp
      · rename_i cells hcells
        simp only [Option.map_eq_some_iff] at hp
        obtain ⟨x, hx, he⟩ := hp
        simp at he; obtain ⟨rfl, rfl⟩ := he
        have := sim_load_ptr (t := t) H hcells hx
        rw [← hu] at this
        exact this
      · rename_i cells hcells
        simp only [Option.map_eq_some_iff] at hp
        obtain ⟨x, hx, he⟩ := hp
        simp at he; obtain ⟨rfl, rfl⟩ := he
        have := sim_load_ro (t := t) H hcells hx
        rw [← hu] at this
        exact this
      · cases hp
    · rename_i cs hpa
      rw [hpa] at ha
      simp only [Option.map_eq_some_iff] at hp
      obtain ⟨x, hx, he⟩ := hp
      simp at he; obtain ⟨rfl, rfl⟩ := he
      exact sim_load_cptr H ha hx
    · cases hp
  · rename_i t a x
    have ha := hρ a
    split at hp
    · rename_i id ver off hpa
      rw [hpa] at ha
      split at hp
      · rename_i v' cells e sz hcells
        split at hp
        · rename_i hv; subst hv
          simp only [Option.map_eq_some_iff] at hp
          obtain ⟨c', hx, he⟩ := hp
          simp at he; obtain ⟨rfl, rfl⟩ := he
          exact sim_store_gptr H hcells ha hx (hρ x)
        · cases hp
      · cases hp
    · rename_i id off hpa
      rw [hpa] at ha
      obtain ⟨hb, hu⟩ := ha
      split at hp
      · rename_i cells hcells
        simp only [Option.map_eq_some_iff] at hp
        obtain ⟨c', hx, he⟩ := hp
        simp at he; obtain ⟨rfl, rfl⟩ := he
        have := sim_store (t := t) H hcells hx (hρ x)
        rw [← hu] at this
        exact this
      · cases hp
    · cases hp
  · rename_i x
    have hx := hρ x
    split at hp
    · rename_i id off hpx
      rw [hpx] at hx
      simp at hp; obtain ⟨rfl, rfl⟩ := hp
      obtain ⟨hb, hu⟩ := hx
      exact Sim.quiet H (u := .pointer (some ⟨(φ id).1, off, none⟩)) (by simp [execOp, hu]) ⟨hb, rfl⟩
    · rename_i cs hpx
      rw [hpx] at hx
      simp at hp; obtain ⟨rfl, rfl⟩ := hp
      have hx' : RepT F (.cptr cs) (ρv x) := hx
      generalize hu : ρv x = u at hx'
      have hx2 := hx'
      cases hx2 with
      | cptr _ a us _ _ _ => exact Sim.quiet H (u := .pointer (some a)) (by simp [execOp, hu]) hx'
    · rename_i f pre caps hpx
      rw [hpx] at hx
      simp at hp; obtain ⟨rfl, rfl⟩ := hp
      have hx' : RepT F (.fn f pre caps) (ρv x) := hx
      generalize hu : ρv x = u at hx'
      have hx2 := hx'
      cases hx2 with
      | fn _ _ _ vs us _ _ _ _ => exact Sim.quiet H (u := .func (.func f) vs.toArray us.toArray) (by simp [execOp, hu]) hx'
    · rename_i id ver off hpx
      rw [hpx] at hx
      simp at hp; obtain ⟨rfl, rfl⟩ := hp
      have hx2 := hx
      obtain ⟨_, _, _, a, _, _, hu, _⟩ := hx2
      rw [hu] at hx
      exact Sim.quiet H (u := .pointer (some a)) (by simp [execOp, hu]) hx
    · rename_i f ids hpx
      rw [hpx] at hx
      simp at hp; obtain ⟨rfl, rfl⟩ := hp
      obtain ⟨hb, hu⟩ := hx
      exact Sim.quiet H (u := .func (.func f) #[] (ids.map fun id => Value.pointer (some ⟨(φ id).1, 0, none⟩)).toArray) (by simp [execOp, hu]) ⟨hb, rfl⟩
    · cases hp
  · rename_i op xt x y yt
    split at hp
    · rename_i id ver sz o n full hpx hpy
      have hx := hρ x
      have hy := hρ y
      rw [hpx] at hx
      rw [hpy] at hy
      obtain ⟨a, cap, ux, _⟩ := RepP.slice_of hx
      have uy : ρv y = .slice none 0 0 := by generalize ρv y = u at hy; cases hy; rfl
      split at hp
      · rename_i e he
        simp at hp; obtain ⟨rfl, rfl⟩ := hp
        exact Sim.quiet H (u := .bool false) (by simpa [execOp] using (sim_gnil (w := w) (x := x) (y := y) (sliceO_some he) ux uy).1) (RepT.bool _)
      · rename_i e he
        simp at hp; obtain ⟨rfl, rfl⟩ := hp
        exact Sim.quiet H (u := .bool true) (by simpa [execOp] using (sim_gnil (w := w) (x := x) (y := y) (sliceO_some he) ux uy).2) (RepT.bool _)
      · cases hp
    · rename_i cs n id hpx hpy
      have hx := hρ x
      have hy := hρ y
      rw [hpx] at hx
      rw [hpy] at hy
      have uy : ρv y = .slice none 0 0 := by generalize ρv y = u at hy; cases hy; rfl
      have key : ∀ e, P.underlying xt = some (.slice e) → (((do eqGuard .eql xt x y (ρv x) (ρv y); pure (Next.value (← binOp .eql xt (ρv x) (ρv y)))) : Sem Next).run P w = .ok (.value (.bool (decide (n = 0)))) w) ∧
          (((do eqGuard .neq xt x y (ρv x) (ρv y); pure (Next.value (← binOp .neq xt (ρv x) (ρv y)))) : Sem Next).run P w = .ok (.value (.bool (decide (0 < n)))) w) := by
        intro e he
        rcases Nat.eq_zero_or_pos n with h0 | h0
        · subst h0
          obtain ⟨_, ux⟩ := hx.1 rfl
          simpa using sim_nilnil (w := w) (x := x) (y := y) he ux uy
        · obtain ⟨a, cap, ux⟩ : ∃ a cap, ρv x = .slice (some a) n cap := by
            have := hx.2.1 h0
            generalize ρv x = u at this
            cases this with
            | sl _ _ _ a cap => exact ⟨a, cap, rfl⟩
          have e1 : decide (n = 0) = false := by simp; omega
          have e2 : decide (0 < n) = true := by simpa using h0
          rw [e1, e2]
          exact sim_gnil he ux uy
      split at hp
      · rename_i e he
        simp at hp; obtain ⟨rfl, rfl⟩ := hp
        exact Sim.quiet H (u := .bool (decide (n = 0))) (by simpa [execOp] using (key _ (sliceO_some he)).1) (RepT.bool _)
      · rename_i e he
        simp at hp; obtain ⟨rfl, rfl⟩ := hp
        exact Sim.quiet H (u := .bool (decide (0 < n))) (by simpa [execOp] using (key _ (sliceO_some he)).2) (RepT.bool _)
      · cases hp
    · split at hp
      · rename_i a b ha hb
        simp only [Option.map_eq_some_iff] at hp
        obtain ⟨c, hc, he⟩ := hp
        simp at he; obtain ⟨rfl, rfl⟩ := he
        exact sim_binOp H hc (PV.toT_rep ha (hρ x)) (PV.toT_rep hb (hρ y))
      · cases hp
  · rename_i op xt x
    split at hp
    · rename_i a ha
      simp only [Option.map_eq_some_iff] at hp
      obtain ⟨c, hc, he⟩ := hp
      simp at he; obtain ⟨rfl, rfl⟩ := he
      exact sim_unOp H hc (PV.toT_rep ha (hρ x))
    · cases hp
  · rename_i src dst x
    have hx := hρ x
    split at hp
    · rename_i k0 n hpx
      rw [hpx] at hx
      have hu : ρv x = .int k0 n := RepT.int_inv hx
      split at hp
      · rename_i k k' hk hs
        simp at hp; obtain ⟨rfl, rfl⟩ := hp
        have := sim_convert (n := n) (k0 := k0) H hk hs
        rw [← hu] at this
        exact this
      · cases hp
    · cases hp
  · rename_i t x
    split at hp
    · rename_i a ha
      split at hp
      · rename_i hd
        obtain ⟨d, hd, hn⟩ := plainO_true hd
        simp at hp; obtain ⟨rfl, rfl⟩ := hp
        exact sim_makeInterface H hd hn (PV.toT_rep ha (hρ x))
      · cases hp
    · cases hp
  · rename_i f first caps
    split at hp
    · rename_i hemp
      have : caps = #[] := by simpa using hemp
      subst this
      simp only [Option.map_eq_some_iff] at hp
      obtain ⟨xs, hxs, he⟩ := hp
      simp at he; obtain ⟨rfl, rfl⟩ := he
      have hrl : RepL F xs (first.toList.map ρv) := allO_toT (h := h) (φ := φ) (l := first.toList.map ρp) (by rw [List.map_map]; exact hxs) (by simp) (fun i p u hp hu => by
        simp only [List.getElem?_map, Option.map_eq_some_iff] at hp hu
        obtain ⟨a, ha, rfl⟩ := hp
        obtain ⟨b, hb, rfl⟩ := hu
        rw [ha] at hb; cases hb
        exact hρ a)
      have e : first.map ρv = (first.toList.map ρv).toArray := by apply Array.ext'; simp
      exact Sim.quiet H (u := .func (.func f) (first.toList.map ρv).toArray #[]) (by simp [execOp, Instr.makeFunc, e]) (RepT.fn f xs [] (first.toList.map ρv) [] hrl.1 hrl.2 rfl (by simp))
    rename_i hemp
    split at hp
    · cases hp
    rename_i hfirst
    have : first = #[] := by simpa using hfirst
    subst this
    · simp only [Option.map_eq_some_iff] at hp
      obtain ⟨ids, hids, he⟩ := hp
      simp at he; obtain ⟨rfl, rfl⟩ := he
      obtain ⟨hl, hs⟩ := allO_some hids
      have key : ∀ (i : Nat) (c : Operand) (id : Nat), caps.toList[i]? = some c → ids[i]? = some id → isBox h id ∧ ρv c = .pointer (some ⟨(φ id).1, 0, none⟩) := by
        intro i c id hc hid
        have := hs i c id hc hid
        have hr := hρ c
        unfold capId at this
        split at this
        · rename_i id' hpc
          simp at this; subst this
          rw [hpc] at hr
          exact hr
        · cases this
      refine Sim.quiet H (u := .func (.func f) #[] (ids.map fun id => Value.pointer (some ⟨(φ id).1, 0, none⟩)).toArray) ?_ ⟨fun id hid => ?_, rfl⟩
      · have e : caps.map ρv = (ids.map fun id => Value.pointer (some ⟨(φ id).1, 0, none⟩)).toArray := by
          apply Array.ext'
          rw [Array.toList_map]
          apply List.ext_getElem?
          intro i
          simp only [List.getElem?_map]
          cases hc : caps.toList[i]? with
          | none =>
            have : ids[i]? = none := List.getElem?_eq_none (by rw [hl]; exact List.getElem?_eq_none_iff.1 hc)
            simp [this]
          | some c =>
            have hi : i < ids.length := by rw [hl]; exact (List.getElem?_eq_some_iff.1 hc).1
            rw [List.getElem?_eq_getElem hi]
            simp [(key i c ids[i] hc (List.getElem?_eq_getElem hi)).2]
        simp [execOp, Instr.makeFunc, e]
      · obtain ⟨i, hi, rfl⟩ := List.getElem_of_mem hid
        have hi' : i < caps.toList.length := by omega
        exact (key i _ _ (List.getElem?_eq_getElem hi') (List.getElem?_eq_getElem hi)).1
  · rename_i s x f
    have hx := hρ x
    split at hp
    · rename_i o ft hf
      split at hp
      · cases hp
      · rename_i hn
        split at hp
        · rename_i id off hpx
          rw [hpx] at hx
          obtain ⟨hb, hu⟩ := hx
          simp at hp; obtain ⟨rfl, rfl⟩ := hp
          have := sim_fieldAddr_ptr (off := off) H hf hn hb
          rw [← hu] at this
          exact this
        · rename_i cs hpx
          rw [hpx] at hx
          simp at hp; obtain ⟨rfl, rfl⟩ := hp
          exact sim_fieldAddr_cptr H hf hn hx
        · rename_i id ver off hpx
          rw [hpx] at hx
          simp at hp; obtain ⟨rfl, rfl⟩ := hp
          exact sim_fieldAddr_gptr H hf hn hx
        · cases hp
    · cases hp
  · rename_i s x f
    have hx := hρ x
    split at hp
    · rename_i o ft cs hf hpx
      rw [hpx] at hx
      simp only [Option.map_eq_some_iff] at hp
      obtain ⟨y, hy, he⟩ := hp
      simp at he; obtain ⟨rfl, rfl⟩ := he
      exact sim_field H hf hy hx
    · rename_i o ft b p q hf hpx
      rw [hpx] at hx
      split at hp
      · cases hp
      · rename_i hb
        simp only [Option.bind_eq_some_iff, Option.map_eq_some_iff] at hp
        obtain ⟨cs, hcs, y, hy, he⟩ := hp
        simp at he; obtain ⟨rfl, rfl⟩ := he
        have hb' : b = false := by simpa using hb
        subst hb'
        have hx2 := hx
        obtain ⟨v, us, hu, _⟩ := hx2
        exact sim_field_cons H hf hcs hy hx ⟨_, hu⟩
    · cases hp
  · rename_i t x i
    have hi := hρ i
    split at hp
    · rename_i k n hpi
      rw [hpi] at hi
      have hu : ρv i = .int k n := RepT.int_inv hi
      simp only [Option.map_eq_some_iff] at hp
      obtain ⟨y, hy, he⟩ := hp
      simp at he; obtain ⟨rfl, rfl⟩ := he
      have := sim_indexAddr (k := k) H hy (hρ x)
      rw [← hu] at this
      exact this
    · cases hp
  · rename_i t x i
    have hi := hρ i
    split at hp
    · rename_i k n cs hpi hpx
      rw [hpi] at hi
      have hu : ρv i = .int k n := RepT.int_inv hi
      have hx := PV.toT_rep hpx (hρ x)
      split at hp
      · rename_i m e ha
        split at hp
        · rename_i sz hsz
          split at hp
          · rename_i hb
            simp only [Option.map_eq_some_iff] at hp
            obtain ⟨y, hy, he⟩ := hp
            simp at he; obtain ⟨rfl, rfl⟩ := he
            have := sim_index_agg (k := k) H ha hsz hb hy hx
            rw [← hu] at this
            exact this
          · cases hp
        · cases hp
      · cases hp
    · rename_i k n s hpi hpx
      rw [hpi] at hi
      have hu : ρv i = .int k n := RepT.int_inv hi
      have hx := PV.toT_rep hpx (hρ x)
      have hs : ρv x = .string s := by generalize ρv x = u at hx; cases hx; rfl
      split at hp
      · rename_i ht
        split at hp
        · rename_i hb
          simp only [Option.some.injEq, Prod.mk.injEq] at hp; obtain ⟨rfl, rfl⟩ := hp
          have := sim_index_str (k := k) H ht hb
          rw [← hu, ← hs] at this
          exact this
        · cases hp
      · cases hp
    · cases hp
  · rename_i t x lo hi mx
    have op : ∀ b : Option Operand, RepOp F φ h (b.map ρp) (b.map ρv) := fun b => by cases b with | none => trivial | some b => exact hρ b
    split at hp
    · rename_i id ver sz o n full hpx
      have hx := hρ x
      rw [hpx] at hx
      simp only [Option.map_eq_some_iff] at hp
      obtain ⟨y, hy, he⟩ := hp
      simp at he; obtain ⟨rfl, rfl⟩ := he
      exact sim_sliceG H (op lo) (op hi) (op mx) hy hx
    · split at hp
      · rename_i a ha
        simp only [Option.map_eq_some_iff] at hp
        obtain ⟨y, hy, he⟩ := hp
        simp at he; obtain ⟨rfl, rfl⟩ := he
        exact sim_slice H (op lo) (op hi) (op mx) hy (PV.toT_rep ha (hρ x))
      · cases hp
  · rename_i x i
    have hx := hρ x
    split at hp
    · rename_i vs hpx
      rw [hpx] at hx
      simp only [Option.map_eq_some_iff] at hp
      obtain ⟨y, hy, he⟩ := hp
      simp at he; obtain ⟨rfl, rfl⟩ := he
      have hx' : RepT F (.tup vs) (ρv x) := hx
      generalize hu : ρv x = u at hx'
      cases hx' with
      | tup _ us hl hr =>
        have hi : i < us.length := by have := (List.getElem?_eq_some_iff.1 hy).1; omega
        refine Sim.quiet H (u := us[i]) ?_ (hr i y _ hy (List.getElem?_eq_getElem hi))
        simp [execOp, hu, Instr.extract, hi]
    · rename_i b p q hpx
      rw [hpx] at hx
      split at hp
      · rename_i hb; subst hb
        simp only [Option.map_eq_some_iff] at hp
        obtain ⟨y, hy, he⟩ := hp
        simp at he; obtain ⟨rfl, rfl⟩ := he
        have hx2 := hx
        obtain ⟨v0, us0, hu, _⟩ := hx2
        obtain ⟨us, hus⟩ : ∃ us, v0 :: us0 = us := ⟨_, rfl⟩
        rw [hus] at hu
        obtain ⟨z, hz, rz⟩ := nthP_rep hy hx hu
        have hi : i < us.length := (List.getElem?_eq_some_iff.1 hz).1
        rw [List.getElem?_eq_getElem hi] at hz; cases hz
        refine Sim.quiet H (u := us[i]) ?_ rz
        simp [execOp, hu, mkV, Instr.extract, hi]
      · cases hp
    · cases hp
  · rename_i b args ts
    unfold popB at hp
    split at hp
    · rename_i t tsr x hts hargs
      have hts0 : ts[0]? = some t := by rw [← Array.getElem?_toList, hts]; rfl
      split at hp
      · rename_i id ver sz o n full
        simp only [Option.map_eq_some_iff] at hp
        obtain ⟨e, he, he2⟩ := hp
        simp at he2; obtain ⟨rfl, rfl⟩ := he2
        obtain ⟨l⟩ := args
        obtain ⟨y, rfl⟩ : ∃ y, l = [y] := by
          cases l with
          | nil => simp at hargs
          | cons y l => cases l with
            | nil => exact ⟨y, rfl⟩
            | cons => simp at hargs
        simp at hargs
        have hy := hρ y
        rw [hargs] at hy
        obtain ⟨a, cap, ux, _⟩ := RepP.slice_of hy
        refine Sim.quiet H (u := .int .i64 n) ?_ (RepT.int _ _)
        simp [execOp, resolve, invoke, builtin, ux, run_lenG he hts0]
      · rename_i cs n id
        simp only [Option.map_eq_some_iff] at hp
        obtain ⟨e, he, he2⟩ := hp
        simp at he2; obtain ⟨rfl, rfl⟩ := he2
        obtain ⟨l⟩ := args
        obtain ⟨y, rfl⟩ : ∃ y, l = [y] := by
          cases l with
          | nil => simp at hargs
          | cons y l => cases l with
            | nil => exact ⟨y, rfl⟩
            | cons => simp at hargs
        simp at hargs
        have hy := hρ y
        rw [hargs] at hy
        obtain ⟨a, cap, ux⟩ : ∃ a cap, ρv y = .slice a n cap := by
          rcases Nat.eq_zero_or_pos n with h0 | h0
          · obtain ⟨_, ux⟩ := hy.1 h0; exact ⟨none, 0, by rw [ux, h0]⟩
          · have := hy.2.1 h0
            generalize ρv y = u at this
            cases this with
            | sl _ _ _ a cap => exact ⟨_, _, rfl⟩
        refine Sim.quiet H (u := .int .i64 n) ?_ (RepT.int _ _)
        simp [execOp, resolve, invoke, builtin, ux, run_lenG he hts0]
      split at hp
      · rename_i xt hxt
        simp only [Option.map_eq_some_iff] at hp
        obtain ⟨n, hn, he⟩ := hp
        simp at he; obtain ⟨rfl, rfl⟩ := he
        obtain ⟨l⟩ := args
        match l, hargs with
        | [y], hargs =>
          simp at hargs; subst hargs
          refine Sim.quiet H (u := .int .i64 n) ?_ (RepT.int _ _)
          simp [execOp, resolve, invoke, builtin, run_len hn (PV.toT_rep hxt (hρ y)) hts0]
      · cases hp
    · simp only [Option.bind_eq_some_iff, Option.map_eq_some_iff] at hp
      obtain ⟨l, hl, y, hy, he⟩ := hp
      simp at he; obtain ⟨rfl, rfl⟩ := he
      have hrl : RepL F l (args.toList.map ρv) := allO_toT (h := h) (φ := φ) hl (by simp) (fun i p u hp hu => by
        simp only [List.getElem?_map, Option.map_eq_some_iff] at hp hu
        obtain ⟨a, ha, rfl⟩ := hp
        obtain ⟨b, hb, rfl⟩ := hu
        rw [ha] at hb; cases hb
        exact hρ a)
      obtain ⟨q, hq, rq⟩ := run_min (P := P) (w := w) (ts := ts) (ty := type) hy hrl
      refine Sim.quiet H (u := q) ?_ rq
      have e : args.map ρv = (args.toList.map ρv).toArray := by apply Array.ext'; simp
      simp only [execOp, resolve, invoke, builtin, Sem.run_bind, Sem.run_pure, Result.andThen_ok, e, hq]
    · simp only [Option.bind_eq_some_iff, Option.map_eq_some_iff] at hp
      obtain ⟨l, hl, y, hy, he⟩ := hp
      simp at he; obtain ⟨rfl, rfl⟩ := he
      have hrl : RepL F l (args.toList.map ρv) := allO_toT (h := h) (φ := φ) hl (by simp) (fun i p u hp hu => by
        simp only [List.getElem?_map, Option.map_eq_some_iff] at hp hu
        obtain ⟨a, ha, rfl⟩ := hp
        obtain ⟨b, hb, rfl⟩ := hu
        rw [ha] at hb; cases hb
        exact hρ a)
      obtain ⟨q, hq, rq⟩ := run_max (P := P) (w := w) (ts := ts) (ty := type) hy hrl
      refine Sim.quiet H (u := q) ?_ rq
      have e : args.map ρv = (args.toList.map ρv).toArray := by apply Array.ext'; simp
      simp only [execOp, resolve, invoke, builtin, Sem.run_bind, Sem.run_pure, Result.andThen_ok, e, hq]
    · rename_i t t' s x hts hargs
      have hts' : ts = #[t, t'] := by apply Array.ext'; simpa using hts
      subst hts'
      obtain ⟨l⟩ := args
      match l, hargs with
      | [a, b], hargs =>
        simp at hargs; obtain ⟨rfl, rfl⟩ := hargs
        have := sim_appendG (ty := type) H hp (hρ a) (hρ b)
        simpa only [execOp, resolve, invoke, builtin, Sem.run_bind, Sem.run_pure, Result.andThen_ok, List.map_toArray, List.map_cons, List.map_nil] using this
    · cases hp
  · cases hp

/-- A variable is written never again from now on. -/
theorem RH.freeze (H : RH P C F φ h w) {id : Nat} {cs : List TV} (hf : frozenO h id = some cs) :
    ∃ F', RH P C F' φ (upo h id (.ro cs)) w ∧ F.le F' ∧ HStep φ φ h (upo h id (.ro cs)) ∧ RepT F' (.cptr cs) (.pointer (some ⟨(φ id).1, 0, none⟩)) := by
  have hob := H.objs id
  unfold frozenO at hf
  split at hf
  · rename_i cells hid
    have hlv : (h id).live = true := by rw [hid]; rfl
    rw [hid] at hob
    obtain ⟨us, ty, h1, h2, h3, h4⟩ := hob
    have hrl : RepL F cs us := by
      obtain ⟨e1, e2⟩ := allO_some hf
      refine ⟨by omega, fun i c u hc hu => ?_⟩
      have hi : i < cells.length := by have := (List.getElem?_eq_some_iff.1 hu).1; omega
      exact PV.toT_rep (e2 i _ c (List.getElem?_eq_getElem hi) hc) (h3 i _ u (List.getElem?_eq_getElem hi) hu).1
    have hone : ∀ (i : Nat) (u : Value), us[i]? = some u → u.oneCell' = true := fun i u hu => by
      have hi : i < cells.length := by have := (List.getElem?_eq_some_iff.1 hu).1; omega
      exact (h3 i _ u (List.getElem?_eq_getElem hi) hu).2
    have hle : F.le (F.with (φ id).1 us) := by
      intro a u hu
      unfold Fz.with
      split
      · rename_i hc
        obtain ⟨b, o, s⟩ := a
        simp only at hc; obtain ⟨rfl, rfl⟩ := hc
        rw [h4 o] at hu; cases hu
      · exact hu
    have hs : HStep φ (upd φ id (φ id)) h (upo h id (.ro cs)) := HStep.one (φ id) (by rw [hid]; exact ⟨.inr ⟨cs, rfl⟩, rfl⟩)
    have := H.put (F' := F.with (φ id).1 us) (w' := w) (.ro cs) (φ id) hs hle (fun a u hu => by
      unfold Fz.with at hu
      split at hu
      · rename_i hc
        obtain ⟨b, o, s⟩ := a
        simp only at hc hu; obtain ⟨rfl, rfl⟩ := hc
        rw [cell_at h1]; exact hu
      · exact H.agree _ _ hu) (fun a u hu hn => by
      unfold Fz.with at hu
      split at hu
      · rename_i hc; exact .inr ⟨hc.1, hlv⟩
      · rw [hn] at hu; cases hu) (Bel.refl _ _) (.inr ⟨rfl, hlv⟩) ⟨us, ty, by rw [upd_self]; exact h1, hrl.mono hle, hone, fun i u hu => by rw [upd_self, Fz.with_at]; exact hu⟩
    rw [upd_self] at this hs
    exact ⟨_, this, hle, hs, .cptr cs _ us hrl.1 (fun i u hu => ⟨by rw [add_plain, Nat.zero_add, Fz.with_at]; exact hu, hone i u hu⟩) (hrl.mono hle).2⟩
  · rename_i cells hid
    cases hf
    have e : upo h id (.ro cs) = h := by funext j; unfold upo; split <;> simp_all
    rw [e]
    rw [hid] at hob
    obtain ⟨us, ty, h1, h2, h3, h4⟩ := hob
    exact ⟨F, H, Fz.le_refl _, HStep.refl _ _, .cptr cs _ us h2.1 (fun i u hu => ⟨by rw [add_plain, Nat.zero_add]; exact h4 i u hu, h3 i u hu⟩) h2.2⟩
  · cases hf

theorem frozenO_upo {id j : Nat} {cs : List TV} (hf : frozenO h id = some cs) : frozenO (upo h id (.ro cs)) j = frozenO h j := by
  by_cases e : j = id
  · subst e; rw [hf]; unfold frozenO; rw [upo_same]
  · unfold frozenO; rw [upo_other h _ e]

theorem RH.freezes : ∀ (ids : List Nat) (css : List (List TV)) {F : Fz} {h : Hp} (_ : RH P C F φ h w) (_ : allO (ids.map (frozenO h)) = some css),
    ∃ F', RH P C F' φ (wr h ((ids.zip css).map fun p => (p.1, PO.ro p.2))) w ∧ F.le F' ∧ RepL F' (css.map .cptr) (ids.map fun id => .pointer (some ⟨(φ id).1, 0, none⟩))
  | [], css, F, h, H, hc => by
    simp [allO] at hc; subst hc
    exact ⟨F, H, Fz.le_refl _, .nil⟩
  | id :: ids, css, F, h, H, hc => by
    simp only [List.map_cons] at hc
    cases hf : frozenO h id with
    | none => rw [hf] at hc; simp [allO] at hc
    | some cs =>
      rw [hf] at hc
      simp only [allO, Option.map_eq_some_iff] at hc
      obtain ⟨css', hc', rfl⟩ := hc
      obtain ⟨F1, H1, l1, _, r1⟩ := H.freeze hf
      obtain ⟨F2, H2, l2, r2⟩ := RH.freezes ids css' H1 (by
        have : ids.map (frozenO (upo h id (.ro cs))) = ids.map (frozenO h) := List.map_congr_left fun j _ => frozenO_upo hf
        rw [this]; exact hc')
      exact ⟨F2, H2, Fz.le_trans l1 l2, RepL.cons (r1.mono l2) r2⟩

/-- A closure whose variables are never written again. -/
theorem popF_sim (H : RH P C F φ h w) {ρp : Operand → PV} {ρv : Operand → Value} (hρ : ∀ x, RepP F φ h (ρp x) (ρv x)) {o : Oper} {v : PV} {W : Wr} {ids : List Nat} (hp : popF o.op ρp h = some (v, W, ids)) :
    Sim P C h ((execOp ρv o).run P w) v W := by
  obtain ⟨dst, op, type, pos, after, guard⟩ := o
  simp only at hp
  unfold popF at hp
  split at hp
  · rename_i f first caps
    split at hp
    · cases hp
    rename_i hfirst
    have : first = #[] := by simpa using hfirst
    subst this
    split at hp
    · rename_i is his
      simp only [Option.map_eq_some_iff] at hp
      obtain ⟨css, hcss, he⟩ := hp
      simp at he; obtain ⟨rfl, rfl, rfl⟩ := he
      obtain ⟨hl, hs⟩ := allO_some his
      obtain ⟨F', H', hle, hrl⟩ := RH.freezes is css H hcss
      refine ⟨F', φ, .func (.func f) #[] (is.map fun id => Value.pointer (some ⟨(φ id).1, 0, none⟩)).toArray, w, .inl ?_, H', RepT.fn f [] _ [] _ rfl (by simp) hrl.1 hrl.2⟩
      have e : caps.map ρv = (is.map fun id => Value.pointer (some ⟨(φ id).1, 0, none⟩)).toArray := by
        apply Array.ext'
        rw [Array.toList_map]
        apply List.ext_getElem?
        intro i
        simp only [List.getElem?_map]
        cases hc : caps.toList[i]? with
        | none =>
          have : is[i]? = none := List.getElem?_eq_none (by rw [hl]; exact List.getElem?_eq_none_iff.1 hc)
          simp [this]
        | some c =>
          have hi : i < is.length := by rw [hl]; exact (List.getElem?_eq_some_iff.1 hc).1
          have h1 := hs i c is[i] hc (List.getElem?_eq_getElem hi)
          have h2 := hρ c
          rw [List.getElem?_eq_getElem hi]
          unfold capId at h1
          split at h1
          · rename_i id' hpc
            simp at h1; subst h1
            rw [hpc] at h2
            simp [h2.2]
          · cases h1
      simp [execOp, Instr.makeFunc, e]
    · cases hp
  · cases hp

/-- What is made to be written. -/
theorem popM_sim (H : RH P C F φ h w) {ρp : Operand → PV} {ρv : Operand → Value} (hρ : ∀ x, RepP F φ h (ρp x) (ρv x)) {o : Oper} {v : PV} {rid : Nat} {W : Wr} (hp : popM P o.op ρp h rid = some (v, W)) :
    Sim P C h ((execOp ρv o).run P w) v W := by
  obtain ⟨dst, op, type, pos, after, guard⟩ := o
  simp only at hp
  unfold popM at hp
  split at hp
  · rename_i t n parts
    simp only [Option.bind_eq_some_iff] at hp
    obtain ⟨ps, hps, cs, hcs, hp⟩ := hp
    split at hp
    · rename_i e he
      split at hp
      · rename_i sz by_ hsm
        split at hp
        · rename_i hres
          simp at hp; obtain ⟨rfl, rfl⟩ := hp
          obtain ⟨i, z, hi, hz, hsz, hzs, hpos, hby, hb0, hco⟩ := smallO_some hsm
          exact sim_buildSliceM H hρ hps hcs he (by simp [szO, hi, hsz]) hco (isRes_iff.1 hres)
        · cases hp
      · cases hp
    · cases hp
  · rename_i args ts
    split at hp
    · rename_i t t' s x hts hargs
      have hts' : ts = #[t, t'] := by apply Array.ext'; simpa using hts
      subst hts'
      obtain ⟨l⟩ := args
      match l, hargs with
      | [a, b], hargs =>
        simp at hargs; obtain ⟨rfl, rfl⟩ := hargs
        have := sim_appendG (ty := type) H hp (hρ a) (hρ b)
        simpa only [execOp, resolve, invoke, builtin, Sem.run_bind, Sem.run_pure, Result.andThen_ok, List.map_toArray, List.map_cons, List.map_nil] using this
    · cases hp
  · cases hp

/-! ### Rows that are never written again -/
theorem thawC_rep (H : RH P C F φ h w) {p : PV} {x : TV} {u : Value} (hp : thawC h p = some x) (hr : RepP F φ h p u) : RepT F x u := by
  unfold thawC at hp
  split at hp
  · rename_i id ver sz o n full
    split at hp
    · rename_i v cells e sz' hid
      split at hp
      · rename_i hc
        obtain ⟨rfl, rfl, hle⟩ := hc
        cases hp
        have hob := H.objs id
        rw [hid] at hob
        obtain ⟨us, h1, h2, h3, h4, h5⟩ := hob
        obtain ⟨v', e', cap, a, q1, q2, rfl, q4, q5, q6, q7⟩ := hr
        rw [hid] at q1; cases q1
        obtain ⟨p1, p2, p3⟩ := q7 rfl
        have hmul : (o + n) * sz' = o * sz' + n * sz' := Nat.add_mul _ _ _
        have key : ∀ (i : Nat) (u : Value), ((us.drop (o * sz')).take (n * sz'))[i]? = some u → i < n * sz' ∧ us[o * sz' + i]? = some u := fun i u hu => by
          rw [List.getElem?_take] at hu
          split at hu
          · rename_i hi
            rw [List.getElem?_drop] at hu
            exact ⟨hi, hu⟩
          · cases hu
        refine .sl _ _ _ _ _ ((us.drop (o * sz')).take (n * sz')) (by simp only [List.length_take, List.length_drop]; omega) (fun i u hu => ?_) (fun i c u hc hu => ?_) q4 q6 q5
        · obtain ⟨hi, hu'⟩ := key i u hu
          have h0 : 0 < cap := by
            rcases Nat.eq_zero_or_pos n with h0 | h0
            · subst h0; omega
            · omega
          obtain ⟨c, hc⟩ : ∃ c, cells[o * sz' + i]? = some c := ⟨_, List.getElem?_eq_getElem (by omega)⟩
          rw [addr_add_spot (p2 h0)]
          exact ⟨(h5 _ c u hc hu').2.2, (h5 _ c u hc hu').2.1⟩
        · obtain ⟨hi, hu'⟩ := key i u hu
          rw [List.getElem?_take, if_pos hi, List.getElem?_drop] at hc
          exact (h5 _ c u hc hu').1
      · cases hp
    · cases hp
  · exact PV.toT_rep hp hr

theorem mkV_flag {b b' : Bool} {us us' : List Value} (h : mkV b us = mkV b' us') : b = b' := by
  cases b <;> cases b' <;> simp [mkV] at h ⊢
theorem thawA_rep (H : RH P C F φ h w) : ∀ {p : PV} {l : List TV} {b : Bool} {us : List Value}, thawA h p = some l → RepP F φ h p (mkV b us) → RepL F l us ∧ (b = false → Ones us)
  | .nil b', l, b, us, h1, hr => by
    simp [thawA] at h1; subst h1
    have : us = [] := mkV_inj (show mkV b us = mkV b' [] from hr)
    subst this
    exact ⟨.nil, fun _ i u hu => by simp at hu⟩
  | .cons b' p q, l, b, us, h1, hr => by
    simp only [thawA] at h1
    split at h1
    · rename_i x l' hx hl
      cases h1
      obtain ⟨v, us', hu, r1, r2, r3⟩ := hr
      have e := mkV_inj hu
      have e2 := mkV_flag hu
      subst e; subst e2
      obtain ⟨i1, i2⟩ := thawA_rep H hl r2
      refine ⟨RepL.cons (thawC_rep H hx r1) i1, fun hb i u hi => ?_⟩
      cases i with
      | zero => simp at hi; subst hi; exact r3 hb
      | succ i => exact i2 hb i u (by simpa using hi)
    · cases h1
  | .t _, _, _, _, hn, _ => by simp [thawA] at hn
  | .ptr _ _, _, _, _, hn, _ => by simp [thawA] at hn
  | .own _ _ _, _, _, _, hn, _ => by simp [thawA] at hn
  | .fnc _ _, _, _, _, hn, _ => by simp [thawA] at hn
  | .yld _, _, _, _, hn, _ => by simp [thawA] at hn
  | .cond _ _, _, _, _, hn, _ => by simp [thawA] at hn
  | .gsl _ _ _ _ _ _, _, _, _, hn, _ => by simp [thawA] at hn
  | .gptr _ _ _, _, _, _, hn, _ => by simp [thawA] at hn
  | .mapr _, _, _, _, hn, _ => by simp [thawA] at hn
  | .junk, _, _, _, hn, _ => by simp [thawA] at hn

/-- .. as a tree. -/
theorem thawP_rep (H : RH P C F φ h w) {p : PV} {u : Value} (hr : RepP F φ h p u) : RepP F φ h (thawP h p) u := by
  unfold thawP
  split
  · rename_i b p q
    split
    · rename_i l hl
      have hr2 := hr
      obtain ⟨v, us, hu, _⟩ := hr2
      rw [hu] at hr
      obtain ⟨r1, r2⟩ := thawA_rep H hl hr
      rw [hu]
      cases b with
      | true => exact RepT.tup _ _ r1.1 r1.2
      | false => exact RepT.agg _ _ r1.1 (r2 rfl) r1.2
    · exact hr
  · split
    · rename_i x hx
      exact thawC_rep H hx hr
    · exact hr

theorem RH.freezeRow (H : RH P C F φ h w) {id : Nat} {o : PO} (hf : freezeO h id = some o) : ∃ F', RH P C F' φ (upo h id o) w ∧ F.le F' ∧ HStep φ φ h (upo h id o) := by
  have hob := H.objs id
  unfold freezeO at hf
  split at hf
  · rename_i v cells e sz hid
    simp only [Option.map_eq_some_iff] at hf
    obtain ⟨cs, hcs, rfl⟩ := hf
    have hlv : (h id).live = true := by rw [hid]; rfl
    rw [hid] at hob
    obtain ⟨us, h1, h2, h3, h4, h5, h6⟩ := hob
    obtain ⟨e1, e2⟩ := allO_some hcs
    have hle : F.le (F.with (φ id).1 (us.take cells.length)) := by
      intro a u hu
      unfold Fz.with
      split
      · rename_i hc
        obtain ⟨b, o, s⟩ := a
        simp only at hc; obtain ⟨rfl, rfl⟩ := hc
        rw [h6 o] at hu; cases hu
      · exact hu
    have hs : HStep φ (upd φ id (φ id)) h (upo h id (.gro v cs e sz)) := HStep.one (φ id) (by rw [hid]; exact ⟨v, rfl, Nat.le_refl _, fun _ => rfl⟩)
    have := H.put (F' := F.with (φ id).1 (us.take cells.length)) (w' := w) (.gro v cs e sz) (φ id) hs hle (fun a u hu => by
      unfold Fz.with at hu
      split at hu
      · rename_i hc
        obtain ⟨b, o, s⟩ := a
        simp only at hc hu; obtain ⟨rfl, rfl⟩ := hc
        rw [cell_at h1]
        rw [List.getElem?_take] at hu
        split at hu
        · exact hu
        · cases hu
      · exact H.agree _ _ hu) (fun a u hu hn => by
      unfold Fz.with at hu
      split at hu
      · rename_i hc; exact .inr ⟨hc.1, hlv⟩
      · rw [hn] at hu; cases hu) (Bel.refl _ _) (.inr ⟨rfl, hlv⟩) ⟨us, by rw [upd_self]; exact h1, by rw [upd_self]; exact h2, by omega, h4, fun i c u hc hu => by
        have hi : i < cells.length := by have := (List.getElem?_eq_some_iff.1 hc).1; omega
        have hci : cells[i]? = some cells[i] := List.getElem?_eq_getElem hi
        have := h5 i _ u hci hu
        refine ⟨(thawC_rep H (e2 i _ c hci hc) this.1).mono hle, this.2, ?_⟩
        rw [upd_self, Fz.with_at, List.getElem?_take, if_pos hi]; exact hu⟩
    rw [upd_self] at this hs
    exact ⟨_, this, hle, hs⟩
  · rename_i v cells e sz hid
    cases hf
    have e : upo h id (.gro v cells e sz) = h := by funext j; unfold upo; split <;> simp_all
    rw [e]
    exact ⟨F, H, Fz.le_refl _, HStep.refl _ _⟩
  · cases hf

theorem RH.freezeRows : ∀ (ids : List Nat) {W : Wr} {F : Fz} {h : Hp} (_ : RH P C F φ h w) (_ : freezeW h ids = some W), ∃ F', RH P C F' φ (wr h W) w ∧ F.le F' ∧ HStep φ φ h (wr h W)
  | [], W, F, h, H, hw => by simp [freezeW] at hw; subst hw; exact ⟨F, H, Fz.le_refl _, HStep.refl _ _⟩
  | id :: ids, W, F, h, H, hw => by
    simp only [freezeW] at hw
    split at hw
    · rename_i o ho
      simp only [Option.map_eq_some_iff] at hw
      obtain ⟨W', hw', rfl⟩ := hw
      obtain ⟨F1, H1, l1, s1⟩ := H.freezeRow ho
      obtain ⟨F2, H2, l2, s2⟩ := RH.freezeRows ids H1 hw'
      exact ⟨F2, H2, Fz.le_trans l1 l2, s1.trans s2⟩
    · cases hw

end Go.Pm
