/- The pure machine, part Mp: rows and maps that are made; a map's entries. -/
import Derived.Test.YtgofljmnlfnlnaaQmH
import Derived.Laws.MakeOwn
import Derived.MapKept
import Derived.ChangeMaps5
import Derived.Carry
namespace Go.Pm
open Go Go.RowKit

variable {P : Program} {C : Cx} {F F' : Fz} {φ φ' φ'' : Nat → Nat × Nat} {h h' h'' : Hp} {w w' : World}

theorem zeroT_rep {t : TypeId} {z : TV} (hz : zeroT P t = some z) : ∃ v, (zeroValue t).run P w = .ok v w ∧ RepT F z v := by
  unfold zeroT at hz
  split at hz
  · rename_i i hi
    split at hz
    · rename_i cs hzz
      simp only [Option.map_eq_some_iff] at hz
      obtain ⟨zs, hzs, rfl⟩ := hz
      obtain ⟨h1, h2⟩ := allO_some hzs
      refine ⟨_, run_zeroValue' hi hzz, ?_⟩
      have := RepT.agg (F := F) zs cs.toList h1.symm (fun j u hu => by
        obtain ⟨c, _, hc2⟩ := allO_at hzs hu
        exact (ofVal_rep (F := F) hc2).2) (fun j c u hc hu => (ofVal_rep (h2 j u c hu hc)).1)
      simpa using this
    · rename_i v hna hzz
      exact ⟨_, run_zeroValue' hi hzz, (ofVal_rep hz).1⟩
    · cases hz
  · cases hz

theorem flat_get {α : Type} (l : List α) : ∀ (n j : Nat), (List.replicate n l).flatten[j]? = if j < n * l.length then l[j % l.length]? else none
  | 0, j => by simp
  | n + 1, j => by
    rw [List.replicate_succ, List.flatten_cons]
    by_cases hj : j < l.length
    · rw [List.getElem?_append_left hj, Nat.mod_eq_of_lt hj, if_pos (by rw [Nat.add_mul]; omega)]
    · rw [List.getElem?_append_right (Nat.le_of_not_lt hj), flat_get l n]
      have e : (j - l.length) % l.length = j % l.length := by rw [Nat.mod_eq_sub_mod (Nat.le_of_not_lt hj)]
      rw [e, Nat.add_mul]
      by_cases h2 : j - l.length < n * l.length
      · rw [if_pos h2, if_pos (by omega)]
      · rw [if_neg h2, if_neg (by omega)]

theorem range_get' (n i : Nat) : (List.range n)[i]? = if i < n then some i else none := by
  by_cases h : i < n
  · simp [h]
  · simp [h]
theorem sim_makeSlice (H : RH P C F φ h w) {t e : TypeId} {l c : Int} {kl kc : IntKind} {sz by_ rid : Nat} {zs : List TV} (he : sliceO P t = some e) (hsm : smallO P e = some (sz, by_)) (hz : zeroL P e = some zs)
    (h0 : 0 ≤ l) (hlc : l = c) (hro : roomy l.toNat by_) (hres : h rid = .res) :
    Sim P C h (((do pure (Next.value (← Instr.makeSlice t (.int kl l) (.int kc c)))) : Sem Next).run P w) (.gsl rid 0 sz 0 l.toNat false) [(rid, .grow 0 (List.replicate l.toNat (zs.map .t)).flatten e sz)] := by
  subst hlc
  obtain ⟨i, z, hi, hzz, hsz, hzs, hpos, hby, hb0, hco⟩ := smallO_some hsm
  obtain ⟨i', z', hi', hzz', hr, ho⟩ := zeroL_rep (F := F) hz
  rw [hi] at hi'; cases hi'
  rw [hzz] at hzz'; cases hzz'
  obtain ⟨n, rfl⟩ := Int.eq_ofNat_of_zero_le h0
  simp only [Int.toNat_natCast] at hro ⊢
  have hmax := roomy_le hb0 hro
  have hrun := run_make (P := P) w t e i z (sliceO_some he) hi hzz kl kc n n h0 (Int.le_refl _) (by
    rw [hby]; unfold roomy at hro
    have : ((by_ * n : Nat) : Int) ≤ 281474976710656 := by rw [Nat.mul_comm]; omega
    rwa [Int.natCast_mul] at this) (by omega)
  simp only [Int.toNat_natCast, hsz] at hrun
  have hmc : (madeCells z.cells (n * sz)).toList = (List.replicate n z.cells.toList).flatten := by
    apply List.ext_getElem?
    intro j
    rw [flat_get]
    unfold madeCells
    rw [Array.toList_map, List.getElem?_map, Array.toList_range, range_get']
    have hl : z.cells.toList.length = sz := by simpa using hzs
    rw [hl]
    by_cases hj : j < n * sz
    · rw [if_pos hj, if_pos hj, Option.map_some]
      have hlt : j % sz < z.cells.size := by rw [hzs]; exact Nat.mod_lt _ hpos
      rw [hzs, getElem!_pos z.cells (j % sz) hlt]
      simp [hlt]
    · rw [if_neg hj, if_neg hj]; rfl
  have hG : RepG F φ h (List.replicate n (zs.map .t)).flatten (List.replicate n z.cells.toList).flatten := by
    clear hrun hmc hro hmax h0
    induction n with
    | zero => exact ⟨rfl, fun i p u hp => by simp at hp⟩
    | succ n ih =>
      rw [List.replicate_succ, List.replicate_succ, List.flatten_cons, List.flatten_cons]
      exact (RepG.of_t hr ho).append ih
  have hl : (List.replicate n z.cells.toList).flatten.length = n * sz := by simp [hzs]
  obtain ⟨a, b⟩ := newGrow H (rest := []) hres hG hl (by simpa using hl) (Nat.le_refl _) (by unfold maxLen; omega) hco
  rw [List.append_nil] at a
  refine ⟨F, _, _, _, .inl ?_, a, b⟩
  simp only [Sem.run_bind, hrun, Result.andThen_ok, Sem.run_pure]
  congr 3
  apply Array.ext'
  rw [hmc]

theorem mapO_some {t k e : TypeId} (hm : mapO P t = some (k, e)) : P.underlying t = some (.map k e) := by
  unfold mapO at hm
  split at hm
  · rename_i h1; simp at hm; rw [h1, hm.1, hm.2]
  · cases hm

theorem sim_makeMap (H : RH P C F φ h w) {t : TypeId} {rid : Nat} (hres : h rid = .res) :
    Sim P C h (((do pure (Next.value (← Instr.makeMap t none))) : Sem Next).run P w) (.mapr rid) [(rid, .mp t fun _ => none)] := by
  have hs := HStep.put (φ := φ) hres (w.heap.size, 0) (.mp t fun _ => none)
  refine ⟨F, upd φ rid (w.heap.size, 0), .map (some w.heap.size), w.alloc (.map #[] 0), .inl ?_, H.put _ _ hs (Fz.le_refl _) (agree_alloc H _) (fun a u h1 h2 => by rw [h1] at h2; cases h2) (Below.bel (below_alloc _ _)) (.inl (Nat.le_refl _)) ?_, t, by rw [show wr h [(rid, PO.mp t fun _ => none)] rid = _ from upo_same _ _ _]; rfl, by rw [upd_same]⟩
  · simp only [Sem.run_bind, run_makeMap, Result.andThen_ok, Sem.run_pure]
  · refine ⟨#[], 0, [], by rw [upd_same]; exact alloc_new _ _, rfl, by funext k; simp [lookT], fun i p x hp => by simp at hp⟩

/-! ### Keys -/
theorem bytes_beq (x y : ByteArray) : (x == y) = true ↔ x = y := by
  obtain ⟨a⟩ := x; obtain ⟨b⟩ := y
  show (a == b) = true ↔ _
  simp
theorem sameNow_scalar {kt : TypeId} {d : TypeDesc} (hd : P.underlying kt = some d) {a b : TV} {u v : Value} (ha : scalarOk P kt a = true) (hb : scalarOk P kt b = true) (ru : RepT F a u) (rv : RepT F b v) :
    (b = a → Instr.sameNow d u v = some true) ∧ (b ≠ a → Instr.sameNow d u v = some false) := by
  cases a <;> simp only [scalarOk, Bool.false_eq_true] at ha
  · rename_i k n
    rw [hd] at ha
    split at ha
    · rename_i k' hk
      cases hk
      have hkk : k = k' := by simpa using ha
      subst hkk
      cases b <;> simp only [scalarOk, Bool.false_eq_true, hd] at hb
      rename_i k2 n2
      have hkk : k2 = k := by simpa using hb
      subst hkk
      cases ru; cases rv
      refine ⟨fun e => by cases e; simp [Instr.sameNow], fun e => ?_⟩
      simp only [Instr.sameNow, if_true, Option.some.injEq, beq_eq_false_iff_ne, ne_eq]
      rintro rfl; exact e rfl
    · cases ha
  · rename_i x
    rw [hd] at ha
    split at ha
    · rename_i hk
      cases hk
      cases b <;> simp only [scalarOk, Bool.false_eq_true, hd] at hb
      cases ru; cases rv
      refine ⟨fun e => by cases e; simp [Instr.sameNow], fun e => ?_⟩
      simp only [Instr.sameNow, if_true, Option.some.injEq, beq_eq_false_iff_ne, ne_eq]
      rintro rfl; exact e rfl
    · cases ha
  · rename_i x
    rw [hd] at ha
    split at ha
    · rename_i hk
      cases hk
      cases b <;> simp only [scalarOk, Bool.false_eq_true, hd] at hb
      cases ru; cases rv
      refine ⟨fun e => by cases e; simp only [Instr.sameNow, Option.some.injEq]; exact (bytes_beq _ _).2 rfl, fun e => ?_⟩
      simp only [Instr.sameNow, Option.some.injEq]
      rw [Bool.eq_false_iff]
      exact fun h => e (by rw [(bytes_beq _ _).1 h])
    · cases ha

theorem findNow_rep {kt : TypeId} {d : TypeDesc} (hd : P.underlying kt = some d) {k : TV} {u : Value} (hk : scalarOk P kt k = true) (ru : RepT F k u) : ∀ (es : List MapEntry) (ents : List (TV × TV)) (i : Nat), es.length = ents.length →
    (∀ (j : Nat) (p : TV × TV) (x : MapEntry), ents[j]? = some p → es[j]? = some x → scalarOk P kt p.1 = true ∧ RepT F p.1 x.key) →
    (Instr.findNow d u es i = some none ∧ ∀ p ∈ ents, p.1 ≠ k) ∨ ∃ j p x, ents[j]? = some p ∧ es[j]? = some x ∧ p.1 = k ∧ (∀ j' p', j' < j → ents[j']? = some p' → p'.1 ≠ k) ∧ Instr.findNow d u es i = some (some (i + j, x.val))
  | [], [], i, _, _ => .inl ⟨rfl, fun p hp => by cases hp⟩
  | e :: es, p :: ents, i, hl, hr => by
    obtain ⟨h1, h2⟩ := hr 0 p e rfl rfl
    have hs := sameNow_scalar hd hk h1 ru h2
    by_cases hpk : p.1 = k
    · refine .inr ⟨0, p, e, rfl, rfl, hpk, fun j' p' hj => by omega, ?_⟩
      simp only [Instr.findNow, hs.1 hpk, Nat.add_zero]
    · have hf : Instr.findNow d u (e :: es) i = Instr.findNow d u es (i + 1) := by
        simp only [Instr.findNow, hs.2 hpk]
      rcases findNow_rep hd hk ru es ents (i + 1) (by simpa using hl) (fun j p x a b => hr (j + 1) p x (by simpa using a) (by simpa using b)) with ⟨q1, q2⟩ | ⟨j, p', x, q1, q2, q3, q4, q5⟩
      · exact .inl ⟨by rw [hf]; exact q1, fun p' hp' => by
          rcases List.mem_cons.1 hp' with rfl | hp'
          · exact hpk
          · exact q2 p' hp'⟩
      · refine .inr ⟨j + 1, p', x, by simpa using q1, by simpa using q2, q3, fun j' p'' hj' hp'' => ?_, by rw [hf, q5]; congr 3; omega⟩
        cases j' with
        | zero => simp at hp''; subst hp''; exact hpk
        | succ j' => exact q4 j' p'' (by omega) (by simpa using hp'')
  | [], _ :: _, _, hl, _ => by simp at hl
  | _ :: _, [], _, hl, _ => by simp at hl

theorem run_checkKey' {kt : TypeId} {em : Bool} {k : TV} {u : Value} (hk : scalarOk P kt k = true) (ru : RepT F k u) : (Instr.checkKey em 10000 kt u).run P w = .ok () w := by
  cases k <;> simp only [scalarOk, Bool.false_eq_true] at hk <;> (split at hk <;> first | cases hk | skip) <;> cases ru <;> (rename_i hu; rw [show (10000 : Nat) = 9999 + 1 from rfl]; unfold Instr.checkKey; simp only [Sem.run_bind, run_underlying' hu, Result.andThen_ok, Sem.run_pure])

theorem sameBits_self {kt : TypeId} {k : TV} {u : Value} (hk : scalarOk P kt k = true) (ru : RepT F k u) : Instr.sameBits 10000 u u = true := by
  cases k <;> simp only [scalarOk, Bool.false_eq_true] at hk <;> cases ru <;> simp [Instr.sameBits, bytes_beq]
theorem scalar_val {kt : TypeId} {k : TV} {u v : Value} (hk : scalarOk P kt k = true) (ru : RepT F k u) (rv : RepT F k v) : u = v := by
  cases k <;> simp only [scalarOk, Bool.false_eq_true] at hk <;> cases ru <;> cases rv <;> rfl

/-- What a key finds. -/
theorem find_rep {t kt et : TypeId} (ht : P.underlying t = some (.map kt et)) {k : TV} {u : Value} (hk : keyOk P t k = true) (ru : RepT F k u) {es : Array MapEntry} {ents : List (TV × TV)} (hl : es.size = ents.length)
    (hr : ∀ (i : Nat) (p : TV × TV) (x : MapEntry), ents[i]? = some p → es[i]? = some x → keyOk P t p.1 = true ∧ RepT F p.1 x.key ∧ RepT F p.2 x.val) :
    (∀ em, (Instr.checkKey em 10000 kt u).run P w = .ok () w) ∧
    (((Instr.findKey kt u es.toList).run P w = .ok none w ∧ ∀ p ∈ ents, p.1 ≠ k) ∨ ∃ j p x, ents[j]? = some p ∧ es[j]? = some x ∧ p.1 = k ∧ (∀ j' p', j' < j → ents[j']? = some p' → p'.1 ≠ k) ∧
      (Instr.findKey kt u es.toList).run P w = .ok (some (j, x.val)) w ∧ (Instr.keyThatStays x.key u).run P w = .ok u w) := by
  have hs : ∀ {k : TV}, keyOk P t k = true → scalarOk P kt k = true := fun {k} h => by simpa [keyOk, ht] using h
  refine ⟨fun em => run_checkKey' (hs hk) ru, ?_⟩
  have hd : ∃ d, P.underlying kt = some d := by
    have := hs hk
    cases hu : P.underlying kt with
    | some d => exact ⟨d, rfl⟩
    | none => cases k <;> simp [scalarOk, hu] at this
  obtain ⟨d, hd⟩ := hd
  rcases findNow_rep hd (hs hk) ru es.toList ents 0 (by simpa using hl) (fun j p x a b => ⟨hs (hr j p x a (by simpa using b)).1, (hr j p x a (by simpa using b)).2.1⟩) with ⟨q1, q2⟩ | ⟨j, p, x, q1, q2, q3, q4, q5⟩
  · exact .inl ⟨by simp [Instr.findKey, run_underlying' hd, q1], q2⟩
  · have hx : es[j]? = some x := by simpa using q2
    refine .inr ⟨j, p, x, q1, hx, q3, q4, by simp [Instr.findKey, run_underlying' hd, q5], ?_⟩
    have hxr := (hr j p x q1 hx).2.1
    rw [q3] at hxr
    have e : x.key = u := scalar_val (hs hk) hxr ru
    rw [e]
    simp [Instr.keyThatStays, sameBits_self (hs hk) ru]

theorem lookT_none {ents : List (TV × TV)} {k : TV} (hn : ∀ p ∈ ents, p.1 ≠ k) : lookT ents k = none := by
  unfold lookT
  rw [List.find?_eq_none.2 (fun p hp => by simpa using hn p hp)]; rfl
theorem lookT_at : ∀ {ents : List (TV × TV)} {k : TV} {j : Nat} {p : TV × TV}, ents[j]? = some p → p.1 = k → (∀ j' p', j' < j → ents[j']? = some p' → p'.1 ≠ k) → lookT ents k = some p.2
  | [], k, j, p, h1, _, _ => by simp at h1
  | q :: ents, k, 0, p, h1, h2, _ => by
    simp at h1; subst h1
    simp [lookT, h2]
  | q :: ents, k, j + 1, p, h1, h2, h3 => by
    have hq := h3 0 q (by omega) rfl
    have := lookT_at (ents := ents) (k := k) (j := j) (p := p) (by simpa using h1) h2 (fun j' p' hj hp => h3 (j' + 1) p' (by omega) (by simpa using hp))
    unfold lookT at this ⊢
    rw [List.find?_cons_of_neg (by simpa using hq)]; exact this
theorem lookT_snoc {ents : List (TV × TV)} {k x : TV} (hn : ∀ p ∈ ents, p.1 ≠ k) : lookT (ents ++ [(k, x)]) = updT (lookT ents) k x := by
  funext k'
  unfold updT
  split
  · rename_i e; subst e
    unfold lookT
    rw [List.find?_append, List.find?_eq_none.2 (fun p hp => by simpa using hn p hp)]
    simp
  · rename_i e
    unfold lookT
    rw [List.find?_append]
    simp [List.find?_cons, Ne.symm e]
theorem lookT_set : ∀ {ents : List (TV × TV)} {k x : TV} {j : Nat} {p : TV × TV}, ents[j]? = some p → p.1 = k → (∀ j' p', j' < j → ents[j']? = some p' → p'.1 ≠ k) → lookT (ents.set j (k, x)) = updT (lookT ents) k x
  | [], k, x, j, p, h1, _, _ => by simp at h1
  | q :: ents, k, x, 0, p, h1, h2, _ => by
    simp at h1; subst h1
    funext k'
    unfold updT
    by_cases e : k' = k
    · subst e; simp [lookT]
    · rw [if_neg e]
      simp only [List.set_cons_zero, lookT]
      rw [List.find?_cons_of_neg (by simp [Ne.symm e]), List.find?_cons_of_neg (by rw [h2]; simp [Ne.symm e])]
  | q :: ents, k, x, j + 1, p, h1, h2, h3 => by
    have hq := h3 0 q (by omega) rfl
    have ih := lookT_set (ents := ents) (k := k) (x := x) (j := j) (p := p) (by simpa using h1) h2 (fun j' p' hj hp => h3 (j' + 1) p' (by omega) (by simpa using hp))
    funext k'
    have ih' := congrFun ih k'
    unfold updT at ih' ⊢
    simp only [List.set_cons_succ]
    by_cases e : q.1 = k'
    · have hne : ¬ k' = k := by rintro rfl; exact hq e
      rw [if_neg hne]
      simp [lookT, e]
    · have c1 : ∀ l, lookT (q :: l) k' = lookT l k' := fun l => by unfold lookT; rw [List.find?_cons_of_neg (by simpa using e)]
      rw [c1, c1]; exact ih'

theorem sim_lookup (H : RH P C F φ h w) {t kt et id : TypeId} {ok : Bool} {k z : TV} {u um : Value} {f : TV → Option TV} (ht : mapO P t = some (kt, et)) (hid : h id = .mp t f) (hz : zeroT P et = some z) (hk : keyOk P t k = true) (hm : RepP F φ h (.mapr id) um) (ru : RepT F k u) :
    Sim P C h (((do pure (Next.value (← Instr.lookup t um u ok))) : Sem Next).run P w) (.t (if ok then .tup [(f k).getD z, .bool (f k).isSome] else (f k).getD z)) [] := by
  have ht' := mapO_some ht
  obtain ⟨t', _, rfl⟩ := hm
  have hob := H.objs id
  rw [hid] at hob
  obtain ⟨es, clock, ents, h1, h2, h3, h4⟩ := hob
  obtain ⟨zv, hzr, hzv⟩ := zeroT_rep (F := F) (w := w) hz
  obtain ⟨c1, c2⟩ := find_rep (w := w) ht' hk ru h2 h4
  have hgo := MapKept.run_getObj_map (P := P) h1
  have key : ∀ (x : TV) (v : Value) (b : Bool), RepT F x v → Sim P C h (.ok (.value (if ok then .tuple #[v, .bool b] else v)) w) (.t (if ok then .tup [x, .bool b] else x)) [] := by
    intro x v b hx
    cases ok with
    | true => exact Sim.quiet H (u := .tuple #[v, .bool b]) (by simp) (RepT.tup [x, .bool b] [v, .bool b] rfl (fun i c u hc hu => by
        match i with
        | 0 => simp at hc hu; subst hc; subst hu; exact hx
        | 1 => simp at hc hu; subst hc; subst hu; exact RepT.bool b
        | (i + 2) => simp at hc))
    | false => exact Sim.quiet H (u := v) (by simp) hx
  rcases c2 with ⟨q1, q2⟩ | ⟨j, p, x, q1, q2, q3, q4, q5, q6⟩
  · have e : f k = none := by rw [h3]; exact lookT_none q2
    have hrun : (((do pure (Next.value (← Instr.lookup t (.map (some (φ id).1)) u ok))) : Sem Next).run P w) = .ok (.value (if ok then .tuple #[zv, .bool false] else zv)) w := by
      simp [Instr.lookup, run_underlying' ht', hgo, c1, q1, hzr]
    rw [hrun, e]
    exact key z zv false hzv
  · have e : f k = some p.2 := by rw [h3]; exact lookT_at q1 q3 q4
    have hrun : (((do pure (Next.value (← Instr.lookup t (.map (some (φ id).1)) u ok))) : Sem Next).run P w) = .ok (.value (if ok then .tuple #[x.val, .bool true] else x.val)) w := by
      simp [Instr.lookup, run_underlying' ht', hgo, c1, q5]
    rw [hrun, e]
    exact key p.2 x.val true (h4 j p x q1 q2).2.2

theorem sim_lookup_nil (H : RH P C F φ h w) {t kt et : TypeId} {ok : Bool} {k z : TV} {u : Value} (ht : mapO P t = some (kt, et)) (hz : zeroT P et = some z) (hk : keyOk P t k = true) (ru : RepT F k u) :
    Sim P C h (((do pure (Next.value (← Instr.lookup t (.map none) u ok))) : Sem Next).run P w) (.t (if ok then .tup [z, .bool false] else z)) [] := by
  have ht' := mapO_some ht
  obtain ⟨zv, hzr, hzv⟩ := zeroT_rep (F := F) (w := w) hz
  obtain ⟨c1, c2⟩ := find_rep (w := w) (es := #[]) (ents := []) ht' hk ru rfl (fun i p x hp => by simp at hp)
  rcases c2 with ⟨q1, q2⟩ | ⟨j, p, x, q1, _⟩
  · have hrun : (((do pure (Next.value (← Instr.lookup t (.map none) u ok))) : Sem Next).run P w) = .ok (.value (if ok then .tuple #[zv, .bool false] else zv)) w := by
      simp only [List.toList_toArray] at q1
      simp [Instr.lookup, run_underlying' ht', c1, q1, hzr]
    rw [hrun]
    cases ok with
    | true => exact Sim.quiet H (u := .tuple #[zv, .bool false]) (by simp) (RepT.tup [z, .bool false] [zv, .bool false] rfl (fun i c u hc hu => by
        match i with
        | 0 => simp at hc hu; subst hc; subst hu; exact hzv
        | 1 => simp at hc hu; subst hc; subst hu; exact RepT.bool false
        | (i + 2) => simp at hc))
    | false => exact Sim.quiet H (u := zv) (by simp) hzv
  · simp at q1

theorem sim_update (H : RH P C F φ h w) {t : TypeId} {m k x v : PV} {um uk ux : Value} {W : Wr} (hv : updateO P t m k x h = some (v, W)) (hm : RepP F φ h m um) (hk : RepP F φ h k uk) (hx : RepP F φ h x ux) :
    Sim P C h (((do Instr.mapUpdate t um uk ux; pure .skip) : Sem Next).run P w) v W := by
  unfold updateO at hv
  split at hv
  · rename_i id k' x' hk' hx'
    split at hv
    · rename_i t' f hid
      split at hv
      · rename_i hc
        obtain ⟨rfl, hko⟩ := hc
        cases hv
        have ru := PV.toT_rep hk' hk
        have rx := PV.toT_rep hx' hx
        obtain ⟨t2, _, rfl⟩ := hm
        have hob := H.objs id
        rw [hid] at hob
        obtain ⟨es, clock, ents, h1, h2, h3, h4⟩ := hob
        have ht : ∃ kt et, P.underlying t' = some (.map kt et) := by
          unfold keyOk at hko
          split at hko
          · rename_i kt et hu; exact ⟨kt, et, hu⟩
          · cases hko
        obtain ⟨kt, et, ht⟩ := ht
        obtain ⟨c1, c2⟩ := find_rep (w := w) ht hko ru h2 h4
        have hgo := MapKept.run_getObj_map (P := P) h1
        have hlv : (h id).live = true := by rw [hid]; rfl
        have hs := HStep.map (φ := φ) (m' := updT f k' x') hid
        have fin : ∀ (es' : Array MapEntry) (clock' : Nat) (ents' : List (TV × TV)), (Instr.mapUpdate t' (.map (some (φ id).1)) uk ux).run P w = .ok () (ChangeMaps.setBlock w (φ id).1 (.map es' clock')) → es'.size = ents'.length → updT f k' x' = lookT ents' →
            (∀ (i : Nat) (p : TV × TV) (x : MapEntry), ents'[i]? = some p → es'[i]? = some x → keyOk P t' p.1 = true ∧ RepT F p.1 x.key ∧ RepT F p.2 x.val) →
            Sim P C h (((do Instr.mapUpdate t' (.map (some (φ id).1)) uk ux; pure .skip) : Sem Next).run P w) (.t (.tup [])) [(id, .mp t' (updT f k' x'))] := by
          intro es' clock' ents' hrun e1 e2 e3
          have hoth : ∀ b, b ≠ (φ id).1 → (ChangeMaps.setBlock w (φ id).1 (.map es' clock')).heap[b]? = w.heap[b]? := fun b hb => ChangeMaps.heap_setBlock_other h1 _ hb
          have := H.put (w' := ChangeMaps.setBlock w (φ id).1 (.map es' clock')) (F' := F) (rid := id) (.mp t' (updT f k' x')) (φ id) (by rw [upd_self]; exact hs) (Fz.le_refl _) (fun a u hu => ?_) (fun a u h5 h6 => by rw [h5] at h6; cases h6)
            ⟨rfl, rfl, rfl, by simp [ChangeMaps.setBlock], fun b _ hb => hoth b (fun e => hb ⟨e, hlv⟩)⟩ (.inr ⟨rfl, hlv⟩) ⟨es', clock', ents', by rw [upd_self]; exact ChangeMaps.heap_setBlock_same h1 _, e1, e2, e3⟩
          · rw [upd_self] at this
            refine ⟨F, φ, undef, _, .inr ⟨?_, rfl⟩, this, .tup [] [] rfl (by simp)⟩
            simp only [Sem.run_bind, hrun, Result.andThen_ok, Sem.run_pure]
          · have hag := H.agree _ _ hu
            have hne : a.block ≠ (φ id).1 := by
              intro e
              unfold World.cell? at hag
              rw [e, h1] at hag; simp at hag
            unfold World.cell? at hag ⊢
            rw [hoth _ hne]; exact hag
        rcases c2 with ⟨q1, q2⟩ | ⟨j, p, x0, q1, q2, q3, q4, q5, q6⟩
        · refine fin (es.push ⟨uk, ux, clock⟩) (clock + 1) (ents ++ [(k', x')]) ?_ (by simp [h2]) (by rw [h3, lookT_snoc q2]) (fun i p x hp hx => ?_)
          · simp [Instr.mapUpdate, run_underlying' ht, hgo, c1, q1, MapKept.run_setObj_map _ h1, ChangeMaps.setBlock]
          · by_cases hi : i < ents.length
            · rw [List.getElem?_append_left hi] at hp
              rw [Array.getElem?_push_lt (by omega)] at hx
              exact h4 i p x hp (by rw [Array.getElem?_eq_getElem (by omega)]; exact hx)
            · have hi' : i = ents.length := by have := (List.getElem?_eq_some_iff.1 hp).1; simp at this; omega
              subst hi'
              rw [List.getElem?_append_right (Nat.le_refl _)] at hp
              simp at hp; subst hp
              rw [← h2] at hx
              simp at hx; subst hx
              exact ⟨hko, ru, rx⟩
        · refine fin (es.modify j fun e => { e with key := uk, val := ux }) clock (ents.set j (k', x')) ?_ (by simp [h2]) (by rw [h3, lookT_set q1 q3 q4]) (fun i p x hp hx => ?_)
          · simp [Instr.mapUpdate, run_underlying' ht, hgo, c1, q5, q2, q6, MapKept.run_setObj_map _ h1, ChangeMaps.setBlock]
          · rw [Array.getElem?_modify] at hx
            by_cases hi : i = j
            · subst hi
              have hlt : i < ents.length := (List.getElem?_eq_some_iff.1 q1).1
              rw [List.getElem?_set_self hlt] at hp; cases hp
              rw [if_pos rfl, q2] at hx
              simp at hx; subst hx
              exact ⟨hko, ru, rx⟩
            · rw [List.getElem?_set_ne (Ne.symm hi)] at hp
              rw [if_neg (Ne.symm hi)] at hx
              exact h4 i p x hp hx
      · cases hv
    · cases hv
  · cases hv

end Go.Pm
