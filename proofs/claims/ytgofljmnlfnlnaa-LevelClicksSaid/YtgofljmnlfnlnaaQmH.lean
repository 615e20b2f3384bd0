/- The pure machine, part H: the builtins, append; then every operation in one theorem. -/
import Derived.Test.YtgofljmnlfnlnaaQmG
namespace Go.Pm
open Go Go.RowKit

variable {P : Program} {C : Cx} {F F' : Fz} {φ φ' φ'' : Nat → Nat × Nat} {h h' h'' : Hp} {w w' : World}

/-- A growing row in a new block. -/
theorem sim_newTok (H : RH P C F φ h w) {rid m cap : Nat} {e : TypeId} {ds : List TV} {us rest : List Value} (hs : HStep φ (upd φ rid (w.heap.size, cap)) h (upo h rid (.tok m e))) (hr : RepL F ds us) (ho : Ones us) (hlen : us.length = m * P.cellsOf e)
    (hrest : us.length + rest.length = cap * P.cellsOf e) (h0 : 0 < m) (h1 : m ≤ cap) (h2 : cap ≤ maxLen) {r : Result Next}
    (hrun : r = .ok (.value (.slice (some ⟨w.heap.size, 0, none⟩) m cap)) (w.drew.alloc (.cells (us ++ rest).toArray e))) :
    Sim P C h r (.own ds m rid) [(rid, .tok m e)] := by
  have H1 := H.drew
  have hle : F.le (F.with w.heap.size us) := Fz.le_with H1 us
  refine ⟨F.with w.heap.size us, upd φ rid (w.heap.size, cap), _, _, .inl hrun, H1.put _ _ hs hle (agree_with H1 us rest e) (fun a u hu hn => .inl (news_with (w := w.drew) us a u hu hn)) (Below.bel (below_alloc w.drew _)) (.inl (Nat.le_refl _)) ?_, fun e => (by omega), fun _ => ?_, m, e, upo_same _ _ _, Nat.le_refl _, fun _ _ => ?_⟩
  · refine fun _ => ⟨us ++ rest, ?_, ?_, ?_, fun i hi => ?_⟩
    · rw [upd_same]; exact alloc_new w.drew _
    · rw [upd_same, List.length_append]; exact hrest
    · rw [upd_same]; exact h1
    · rw [upd_same, Fz.with_at]; exact List.getElem?_eq_none (by omega)
  · exact RepT.row (w := w) us hr ho hle m cap false h1 (by simp) h2
  · rw [upd_same]

theorem run_len {t : TypeId} {x : TV} {u : Value} {n : Int} {ty : TypeId} {ts : Array TypeId} (hn : lenO P t x = some n) (hr : RepT F x u) (ht : ts[0]? = some t) : (Builtin.len_ ts ty #[u]).run P w = .ok (.int .i64 n) w := by
  unfold lenO at hn
  split at hn
  · rename_i e cs k f hu; cases hr; simp at hn; subst hn; simp [Builtin.len_, ht, run_underlying' hu, goInt]
  · rename_i e hu; cases hr; simp at hn; subst hn; simp [Builtin.len_, ht, run_underlying' hu, goInt]
  · rename_i s hu; cases hr; simp at hn; subst hn; simp [Builtin.len_, ht, run_underlying' hu, goInt]
  · rename_i k e hu; simp at hn; subst hn; simp [Builtin.len_, ht, run_underlying' hu, goInt]
  · cases hn

theorem allO_toT {l : List PV} {vs : List Value} {xs : List TV} (hx : allO (l.map PV.toT) = some xs) (hl : vs.length = l.length) (hr : ∀ (i : Nat) (p : PV) (u : Value), l[i]? = some p → vs[i]? = some u → RepP F φ h p u) : RepL F xs vs := by
  obtain ⟨h1, h2⟩ := allO_some hx
  refine ⟨by omega, fun i c u hc hu => ?_⟩
  have hi : i < l.length := by have := (List.getElem?_eq_some_iff.1 hc).1; omega
  have hp : l[i]? = some l[i] := List.getElem?_eq_getElem hi
  exact PV.toT_rep (h2 i _ c hp hc) (hr i _ u hp hu)

theorem fold_none {f : TV → TV → Option TV} : ∀ (l : List TV), l.foldl (fun acc y => match acc with | some x => f x y | none => none) (none : Option TV) = none
  | [] => rfl
  | _ :: l => fold_none l

theorem run_minmax {f : Value → Value → Sem Value} {g : TV → TV → Option TV} (hfg : ∀ (x y z : TV) (u v : Value), g x y = some z → RepT F x u → RepT F y v → ∃ q, (f u v).run P w = .ok q w ∧ RepT F z q) :
    ∀ (l : List TV) (vs : List Value) (x z : TV) (u : Value), l.foldl (fun acc y => match acc with | some x => g x y | none => none) (some x) = some z → RepT F x u → RepL F l vs →
      ∃ q, (vs.foldlM f u).run P w = .ok q w ∧ RepT F z q
  | [], vs, x, z, u, hz, hu, hr => by
    have : vs = [] := List.eq_nil_of_length_eq_zero (by simpa using hr.1)
    subst this
    simp at hz; subst hz
    exact ⟨u, by simp, hu⟩
  | y :: l, [], x, z, u, _, _, hr => by have := hr.1; simp at this
  | y :: l, v :: vs, x, z, u, hz, hu, hr => by
    simp only [List.foldl_cons] at hz
    cases hg : g x y with
    | none => rw [hg, fold_none] at hz; cases hz
    | some x' =>
      rw [hg] at hz
      obtain ⟨q, hq, rq⟩ := hfg x y x' u v hg hu (hr.2 0 y v rfl rfl)
      obtain ⟨q', hq', rq'⟩ := run_minmax hfg l vs x' z q hz rq ⟨by have := hr.1; simpa using this, fun i c u a b => hr.2 (i + 1) c u (by simpa using a) (by simpa using b)⟩
      exact ⟨q', by simp only [List.foldlM_cons, Sem.run_bind, hq, Result.andThen_ok, hq'], rq'⟩

theorem run_min {ts : Array TypeId} {ty : TypeId} {xs : List TV} {vs : List Value} {z : TV} (hz : minO xs = some z) (hr : RepL F xs vs) : ∃ q, (Builtin.min_ ts ty vs.toArray).run P w = .ok q w ∧ RepT F z q := by
  cases xs with
  | nil => simp [minO] at hz
  | cons x xs =>
    cases vs with
    | nil => have := hr.1; simp at this
    | cons u vs =>
      simp only [minO] at hz
      refine run_minmax (f := Builtin.min2) (g := min2T) (fun x y z u v hg hu hv => ?_) xs vs x z u hz (hr.2 0 x u rfl rfl) ⟨by have := hr.1; simpa using this, fun i c u a b => hr.2 (i + 1) c u (by simpa using a) (by simpa using b)⟩
      unfold min2T at hg
      split at hg
      · cases hu; cases hv
        split at hg
        · rename_i k a k' b hk; simp at hg; subst hg; subst hk
          refine ⟨.int k (if b < a then b else a), by simp [Builtin.min2], ?_⟩
          have e : (if b < a then b else a) = min a b := by rw [Int.min_def]; split <;> split <;> omega
          rw [e]; exact .int _ _
        · cases hg
      · cases hg
theorem run_max {ts : Array TypeId} {ty : TypeId} {xs : List TV} {vs : List Value} {z : TV} (hz : maxO xs = some z) (hr : RepL F xs vs) : ∃ q, (Builtin.max_ ts ty vs.toArray).run P w = .ok q w ∧ RepT F z q := by
  cases xs with
  | nil => simp [maxO] at hz
  | cons x xs =>
    cases vs with
    | nil => have := hr.1; simp at this
    | cons u vs =>
      simp only [maxO] at hz
      refine run_minmax (f := Builtin.max2) (g := max2T) (fun x y z u v hg hu hv => ?_) xs vs x z u hz (hr.2 0 x u rfl rfl) ⟨by have := hr.1; simpa using this, fun i c u a b => hr.2 (i + 1) c u (by simpa using a) (by simpa using b)⟩
      unfold max2T at hg
      split at hg
      · cases hu; cases hv
        split at hg
        · rename_i k a k' b hk; simp at hg; subst hg; subst hk
          refine ⟨.int k (if b > a then b else a), by simp [Builtin.max2], ?_⟩
          have e : (if b > a then b else a) = max a b := by rw [Int.max_def]; split <;> split <;> omega
          rw [e]; exact .int _ _
        · cases hg
      · cases hg

theorem srcO_some {sz m : Nat} {x : TV} {ds : List TV} {u : Value} (hs : srcO sz x = some (ds, m)) (hr : RepT F x u) :
    (u = .slice none 0 0 ∧ ds = [] ∧ m = 0) ∨ ∃ a c us, u = .slice (some a) m c ∧ us.length = m * sz ∧ RepL F ds us ∧ Ones us ∧ ∀ (i : Nat) (v : Value), us[i]? = some v → F (a.add i) = some v := by
  unfold srcO at hs
  split at hs
  · cases hr; simp at hs; exact .inl ⟨rfl, hs.1, hs.2.symm⟩
  · split at hs
    · rename_i hlen
      simp at hs; obtain ⟨rfl, rfl⟩ := hs
      cases hr with
      | sl _ _ _ a cap us hl hF hrr h1 h2 h3 => exact .inr ⟨a, cap, us, rfl, by omega, ⟨hl, hrr⟩, fun i u hu => (hF i u hu).2, fun i v hv => (hF i v hv).1⟩
    · cases hs
  · cases hs

theorem smallO_some {e : TypeId} {sz by_ : Nat} (hs : smallO P e = some (sz, by_)) : ∃ i z, P.info? e = some i ∧ i.zero = some z ∧ i.size = sz ∧ z.cells.size = sz ∧ 0 < sz ∧ i.bytes = by_ ∧ 0 < by_ ∧ P.cellsOf e = sz := by
  unfold smallO at hs
  split at hs
  · rename_i i hi
    split at hs
    · rename_i z hz
      split at hs
      · rename_i hc
        simp at hs; obtain ⟨rfl, rfl⟩ := hs
        exact ⟨i, z, hi, hz, rfl, hc.2.1, hc.1, rfl, hc.2.2, by simp [Program.cellsOf, hi]⟩
      · cases hs
    · cases hs
  · cases hs

theorem append_none_run {t ty e : TypeId} {i : TypeInfo} (ht : P.underlying t = some (.slice e)) (hi : P.info? e = some i) (b : Option Addr) (n c : Nat) (hnc : n ≤ c) (x : Value) (hx : x = .slice none 0 0 ∨ ∃ a k, x = .slice (some a) 0 k) :
    (Builtin.append_ #[t, t] ty #[.slice b n c, x]).run P w = .ok (.slice b n c) w := by
  rcases hx with rfl | ⟨a, k, rfl⟩
  · cases b <;> simp [Builtin.append_, run_underlying' ht, sizeOf, typeInfo, hi, Builtin.lenOf, hnc, Builtin.firstCells, storeCells]
  · have := run_firstCells_some (P := P) w i.size 0 a 0 k [] (by simp) (by simp)
    cases b <;> simp [Builtin.append_, run_underlying' ht, sizeOf, typeInfo, hi, Builtin.lenOf, hnc, this, storeCells]

/-- append, in place. -/
theorem sim_append_room (H : RH P C F φ h w) {id n m : Nat} {e : TypeId} {cs ds : List TV} {news us : List Value} (hid : h id = .tok n e)
    (hcs : RepL F cs us) (hous : Ones us) (hlus : us.length = n * P.cellsOf e) (hFus : ∀ (i : Nat) (v : Value), us[i]? = some v → F ⟨(φ id).1, i, none⟩ = some v)
    (hr : RepL F ds news) (ho : Ones news) (hlen : news.length = m * P.cellsOf e) (hn0 : 0 < n) (hm : 0 < m) (hroom : n + m ≤ (φ id).2) (hmax : (φ id).2 ≤ maxLen) {r : Result Next}
    (hrun : ∀ cur : List Value, w.heap[(φ id).1]? = some (.cells cur.toArray e (0, 0)) →
      r = .ok (.value (.slice (some ⟨(φ id).1, 0, none⟩) (n + m) (φ id).2)) (w.setRow (φ id).1 (cur.take (n * P.cellsOf e) ++ news ++ cur.drop (n * P.cellsOf e + news.length)).toArray)) :
    Sim P C h r (.own (cs ++ ds) (n + m) id) [(id, .tok (n + m) e)] := by
  have hob := H.objs id
  rw [hid] at hob
  obtain ⟨cur, h1, h2, h3, h4⟩ := hob hn0
  have hlv : (h id).live = true := by rw [hid]; simpa [PO.live] using hn0
  have hpre : cur.take (n * P.cellsOf e) = us := by
    have hsz : (φ id).2 * P.cellsOf e ≥ n * P.cellsOf e := Nat.mul_le_mul_right _ h3
    apply List.ext_getElem?
    intro i
    rw [List.getElem?_take]
    by_cases hi : i < n * P.cellsOf e
    · rw [if_pos hi]
      have hiu : i < us.length := by omega
      have e1 := H.agree _ _ (hFus i us[i] (List.getElem?_eq_getElem hiu))
      rw [cell_at h1] at e1
      rw [e1, List.getElem?_eq_getElem hiu]
    · rw [if_neg hi, List.getElem?_eq_none (by omega)]
  have hnew : us ++ news ++ cur.drop (n * P.cellsOf e + news.length) = cur.take (n * P.cellsOf e) ++ news ++ cur.drop (n * P.cellsOf e + news.length) := by rw [hpre]
  let rest := cur.drop (n * P.cellsOf e + news.length)
  have hsame : (w.setRow (φ id).1 (us ++ news ++ rest).toArray).heap[(φ id).1]? = some (.cells (us ++ news ++ rest).toArray e (0, 0)) := setRow_heap w _ _ _ _ _ h1
  have hmul : (n + m) * P.cellsOf e = n * P.cellsOf e + m * P.cellsOf e := Nat.add_mul _ _ _
  have hcap : (n + m) * P.cellsOf e ≤ (φ id).2 * P.cellsOf e := Nat.mul_le_mul_right _ hroom
  let F1 : Fz := F.with (φ id).1 (us ++ news)
  have hle : F.le F1 := by
    intro a u hu
    show Fz.with F _ _ a = some u
    unfold Fz.with
    split
    · rename_i hc
      obtain ⟨b, o, s⟩ := a
      simp only at hc; obtain ⟨rfl, rfl⟩ := hc
      by_cases ho' : o < n * P.cellsOf e
      · have hiu : o < us.length := by omega
        have e1 := hFus o us[o] (List.getElem?_eq_getElem hiu)
        rw [hu] at e1; cases e1
        rw [List.getElem?_append_left hiu, List.getElem?_eq_getElem hiu]
      · rw [h4 o (by omega)] at hu; cases hu
    · exact hu
  have hRL : RepL F1 (cs ++ ds) (us ++ news) := (hcs.append hr).mono hle
  have hst : HStep φ (upd φ id (φ id)) h (upo h id (.tok (n + m) e)) := HStep.one (φ id) (by rw [hid]; exact ⟨n + m, rfl, by omega, fun _ => rfl⟩)
  refine ⟨F1, upd φ id (φ id), .slice (some ⟨(φ id).1, 0, none⟩) (n + m) (φ id).2, w.setRow (φ id).1 (us ++ news ++ rest).toArray, .inl ?_, H.put _ _ hst hle (fun a u hu => ?_) (fun a u hu hn => ?_) (bel_setRow w _ _ ⟨rfl, hlv⟩) (.inr ⟨rfl, hlv⟩) ?_, fun e => (by omega), fun _ => ?_, n + m, e, upo_same _ _ _, Nat.le_refl _, fun _ _ => by rw [upd_same]⟩
  · rw [hrun cur h1, ← hnew]
  · have hu' : Fz.with F _ _ a = some u := hu
    unfold Fz.with at hu'
    split at hu'
    · rename_i hc
      obtain ⟨b, o, s⟩ := a
      simp only at hc hu'; obtain ⟨rfl, rfl⟩ := hc
      rw [cell_at hsame, List.getElem?_append_left (List.getElem?_eq_some_iff.1 hu').1]; exact hu'
    · rename_i hc
      have hcell := H.agree _ _ hu'
      have hbne : a.block ≠ (φ id).1 := by
        intro e'
        obtain ⟨b, o, s⟩ := a
        simp only at e'; subst e'
        cases s with
        | none => exact hc ⟨rfl, rfl⟩
        | some s => simp [World.cell?, h1] at hcell
      unfold World.cell? at hcell ⊢
      rw [setRow_other w _ _ _ hbne]; exact hcell
  · have hu' : Fz.with F _ _ a = some u := hu
    unfold Fz.with at hu'
    split at hu'
    · rename_i hc; exact .inr ⟨hc.1, hlv⟩
    · rw [hn] at hu'; cases hu'
  · refine fun _ => ⟨us ++ news ++ rest, ?_, ?_, ?_, fun i hi => ?_⟩
    · rw [upd_same]; exact hsame
    · rw [upd_same]; simp only [rest, List.length_append, List.length_drop]; omega
    · rw [upd_same]; exact hroom
    · rw [upd_same]
      show Fz.with F _ _ _ = none
      rw [Fz.with_at]; exact List.getElem?_eq_none (by simp only [List.length_append]; omega)
  · refine .sl _ _ _ _ _ (us ++ news) hRL.1 (fun i u hu => ⟨?_, (hous.append ho) i u hu⟩) hRL.2 hroom (by simp) hmax
    rw [add_plain, Nat.zero_add]
    show Fz.with F _ _ _ = some u
    rw [Fz.with_at]; exact hu

theorem run_lenG {t : TypeId} {e : TypeId} {n cap : Nat} {a : Option Addr} {ty : TypeId} {ts : Array TypeId} (hs : sliceO P t = some e) (ht : ts[0]? = some t) : (Builtin.len_ ts ty #[.slice a n cap]).run P w = .ok (.int .i64 n) w := by
  simp [Builtin.len_, ht, run_underlying' (sliceO_some hs), goInt]

theorem RepP.slice_of {id ver sz o n : Nat} {full : Bool} {u : Value} (hr : RepP F φ h (.gsl id ver sz o n full) u) : ∃ a cap, u = .slice (some a) n cap ∧ n ≤ cap ∧ cap ≤ maxLen := by
  obtain ⟨v, e, cap, a, h1, h2, h3, h4, h5, _⟩ := hr; exact ⟨a, cap, h3, h4, h5⟩

/-- What is appended: the elements, in memory. -/
theorem srcG_some (H : RH P C F φ h w) {sz m : Nat} {x : PV} {ds : List PV} {u : Value} (hs : srcG sz x h = some (ds, m)) (hr : RepP F φ h x u) :
    (u = .slice none 0 0 ∧ ds = [] ∧ m = 0) ∨ ∃ a c us, u = .slice (some a) m c ∧ us.length = m * sz ∧ RepG F φ h ds us ∧ ∀ (i : Nat) (v : Value), us[i]? = some v → w.cell? (a.add i) = some v := by
  have plain : ∀ y : TV, x.toT = some y → srcO sz y = some ((ds.map fun p => (p.toT).getD .nilSl), m) → ds = (ds.map fun p => (p.toT).getD .nilSl).map .t →
      (u = .slice none 0 0 ∧ ds = [] ∧ m = 0) ∨ ∃ a c us, u = .slice (some a) m c ∧ us.length = m * sz ∧ RepG F φ h ds us ∧ ∀ (i : Nat) (v : Value), us[i]? = some v → w.cell? (a.add i) = some v := by
    intro y hy hsy hds
    rcases srcO_some hsy (PV.toT_rep hy hr) with ⟨h1, h2, h3⟩ | ⟨a, c, us, h1, h2, h3, h4, h5⟩
    · exact .inl ⟨h1, by rw [hds, h2]; rfl, h3⟩
    · refine .inr ⟨a, c, us, h1, h2, ?_, fun i v hv => H.agree _ _ (h5 i v hv)⟩
      rw [hds]; exact RepG.of_t h3 h4
  have other : (x.toT.bind fun x => (srcO sz x).map fun r => (r.1.map PV.t, r.2)) = some (ds, m) → (u = .slice none 0 0 ∧ ds = [] ∧ m = 0) ∨ ∃ a c us, u = .slice (some a) m c ∧ us.length = m * sz ∧ RepG F φ h ds us ∧ ∀ (i : Nat) (v : Value), us[i]? = some v → w.cell? (a.add i) = some v := by
    intro hs
    simp only [Option.bind_eq_some_iff, Option.map_eq_some_iff] at hs
    obtain ⟨y, hy, r, hr', he⟩ := hs
    obtain ⟨r1, r2⟩ := r
    simp only [Prod.mk.injEq] at he
    obtain ⟨rfl, rfl⟩ := he
    have e : ((r1.map PV.t).map fun p => (p.toT).getD .nilSl) = r1 := by
      rw [List.map_map]
      have : ((fun p : PV => (p.toT).getD .nilSl) ∘ PV.t) = id := by funext z; rfl
      rw [this, List.map_id]
    exact plain y hy (by rw [e]; exact hr') (by rw [e])
  unfold srcG at hs
  split at hs
  · rename_i id ver sz' o n full
    simp only [Option.bind_eq_some_iff] at hs
    obtain ⟨cells, hc, hs⟩ := hs
    split at hs
    · rename_i hcond
      obtain ⟨rfl, hle⟩ := hcond
      simp only [Option.some.injEq, Prod.mk.injEq] at hs
      obtain ⟨rfl, hnm⟩ := hs
      subst hnm
      obtain ⟨us, e, sz2, g0, g1, g2, g3, g4, g5⟩ := row_at H hc
      obtain ⟨v, e', cap, a, k1, k2, rfl, k4, k5, k6, k7⟩ := hr
      rw [g0] at k1; cases k1
      obtain ⟨q1, q2, q3⟩ := k7 rfl
      have hmul : (o + n) * sz' = o * sz' + n * sz' := Nat.add_mul _ _ _
      refine .inr ⟨a, cap, (us.drop (o * sz')).take (n * sz'), rfl, by simp only [List.length_take, List.length_drop]; omega, ⟨by simp only [List.length_take, List.length_drop]; omega, fun i p z hp hz => ?_⟩, fun i z hz => ?_⟩
      · rw [List.getElem?_take] at hp hz
        split at hp
        · rename_i hi
          rw [if_pos hi] at hz
          rw [List.getElem?_drop] at hp hz
          exact g5 _ p z hp hz
        · cases hp
      · rw [List.getElem?_take] at hz
        split at hz
        · rename_i hi
          rw [List.getElem?_drop] at hz
          have : 0 < cap := by
            rcases Nat.eq_zero_or_pos n with h0 | h0
            · subst h0; omega
            · omega
          rw [addr_add_spot (q2 this), cell_at g1]; exact hz
        · cases hz
    · cases hs
  · exact other hs

theorem roomy_le {n b : Nat} (hb : 0 < b) (h : roomy n b) : n ≤ 140737488355328 := by
  unfold roomy at h
  exact Nat.le_trans (Nat.le_mul_of_pos_right n hb) h

theorem rest_len {w : World} {z : Value} {sz need old k : Nat} {e : TypeId} (hz : z.cells.size = sz) (hk : k = need * sz) :
    k + (Builtin.zeroCells z.cells (grownCap w need old e - need)).toList.length = grownCap w need old e * sz := by
  have hge := grownCap_ge w need old e
  rw [Array.length_toList, size_zeroCells, hz, hk, ← Nat.add_mul]
  congr 1; omega

/-- A row in a new block, of one kind or the other. -/
theorem sim_fresh (H : RH P C F φ h w) {mu : Bool} {cs : List PV} {n cap sz rid : Nat} {e : TypeId} {v : PV} {W : Wr} {us rest : List Value} (hx : freshO mu cs n e sz rid = some (v, W)) (hres : h rid = .res) (hr : RepG F φ h cs us)
    (hlen : us.length = n * sz) (hrest : us.length + rest.length = cap * sz) (hn0 : 0 < n) (hn : n ≤ cap) (hm : cap ≤ maxLen) (hsz : P.cellsOf e = sz) {r : Result Next}
    (hrun : r = .ok (.value (.slice (some ⟨w.heap.size, 0, none⟩) n cap)) (w.drew.alloc (.cells (us ++ rest).toArray e))) : Sim P C h r v W := by
  unfold freshO at hx
  split at hx
  · cases hx
    obtain ⟨a, b⟩ := newGrow H.drew hres hr hlen hrest hn hm hsz
    exact ⟨F, _, _, _, .inl hrun, a, b⟩
  · simp only [Option.map_eq_some_iff] at hx
    obtain ⟨xs, hxs, he⟩ := hx
    simp only [Prod.mk.injEq] at he
    obtain ⟨rfl, rfl⟩ := he
    obtain ⟨h1, h2⟩ := hr.toL hxs
    exact sim_newTok H (HStep.put hres _ _) h1 h2 (by rw [hsz]; exact hlen) (by rw [hsz]; exact hrest) hn0 hn hm hrun

theorem growIs_eq {o : PO} {v e sz : Nat} {cells : List PV} (hg : growIs o v e sz = some cells) : o = .grow v cells e sz := by
  unfold growIs at hg
  split at hg
  · split at hg
    · rename_i hc; obtain ⟨rfl, rfl, rfl⟩ := hc; cases hg; rfl
    · cases hg
  · cases hg
theorem RepG.drop_take {ps : List PV} {us : List Value} (hr : ∀ (i : Nat) (p : PV) (u : Value), ps[i]? = some p → us[i]? = some u → RepP F φ h p u ∧ u.oneCell' = true) (hl : ps.length ≤ us.length) {a k : Nat} (hle : a + k ≤ ps.length) :
    RepG F φ h ((ps.drop a).take k) ((us.drop a).take k) := by
  refine ⟨by simp only [List.length_take, List.length_drop]; omega, fun i p u hp hu => ?_⟩
  rw [List.getElem?_take] at hp hu
  split at hp
  · rename_i hi
    rw [if_pos hi] at hu
    rw [List.getElem?_drop] at hp hu
    exact hr _ p u hp hu
  · cases hp

end Go.Pm
