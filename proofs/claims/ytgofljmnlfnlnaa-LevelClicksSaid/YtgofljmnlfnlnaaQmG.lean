/- The pure machine, part G: literals, the builtins, append; then every operation in one theorem. -/
import Derived.Test.YtgofljmnlfnlnaaQmF
namespace Go.Pm
open Go Go.RowKit

variable {P : Program} {C : Cx} {F F' : Fz} {φ φ' : Nat → Nat × Nat} {h h' : Hp} {w w' : World}

theorem fold_set (off : Nat) : ∀ (vs : List Value) (k : Nat) (cs : Array Value), off + k + vs.length ≤ cs.size →
    (vs.zipIdx k).foldl (fun (cs : Array Value) (p : Value × Nat) => cs.setIfInBounds (off + p.2) p.1) cs = (cs.toList.take (off + k) ++ vs ++ cs.toList.drop (off + k + vs.length)).toArray
  | [], k, cs, _ => by simp
  | v :: vs, k, cs, hle => by
    simp only [List.zipIdx_cons, List.foldl_cons]
    rw [fold_set off vs (k + 1) _ (by simp at hle ⊢; omega)]
    have e := list_seg_step cs.toList (off + k) v vs (by simp at hle ⊢; omega)
    congr 1
    simpa [Array.toList_setIfInBounds, Nat.add_assoc] using e

def Ones (us : List Value) : Prop := ∀ (i : Nat) (u : Value), us[i]? = some u → u.oneCell' = true
theorem Ones.append {us vs : List Value} (h1 : Ones us) (h2 : Ones vs) : Ones (us ++ vs) := fun i u hu => by
  by_cases hi : i < us.length
  · rw [List.getElem?_append_left hi] at hu; exact h1 _ _ hu
  · rw [List.getElem?_append_right (by omega)] at hu; exact h2 _ _ hu
theorem Ones.take {us : List Value} (h1 : Ones us) (k : Nat) : Ones (us.take k) := fun i u hu => by
  rw [List.getElem?_take] at hu
  split at hu
  · exact h1 _ _ hu
  · cases hu
theorem Ones.drop {us : List Value} (h1 : Ones us) (k : Nat) : Ones (us.drop k) := fun i u hu => by
  rw [List.getElem?_drop] at hu; exact h1 _ _ hu

theorem fill_rep {place : Nat → Option (Nat × Nat)} : ∀ (parts : List (Nat × TV)) (vals : List (Nat × Value)) (cs cs' : List TV) (us : List Value),
    fillT place cs parts = some cs' → RepL F cs us → Ones us → vals.length = parts.length → (∀ (i : Nat) (p : Nat × TV) (v : Nat × Value), parts[i]? = some p → vals[i]? = some v → v.1 = p.1 ∧ RepT F p.2 v.2) →
    ∃ us', Instr.fill place us.toArray vals = some us'.toArray ∧ RepL F cs' us' ∧ Ones us'
  | [], vals, cs, cs', us, hf, hr, ho, hl, _ => by
    simp [fillT] at hf; subst hf
    have : vals = [] := List.eq_nil_of_length_eq_zero (by simpa using hl)
    subst this
    exact ⟨us, rfl, hr, ho⟩
  | (i, x) :: parts, [], cs, cs', us, _, _, _, hl, _ => by simp at hl
  | (i, x) :: parts, (j, v) :: vals, cs, cs', us, hf, hr, ho, hl, hp => by
    obtain ⟨e1, e2⟩ := hp 0 (i, x) (j, v) rfl rfl
    simp only at e1 e2; subst e1
    simp only [fillT] at hf
    split at hf
    · cases hf
    · rename_i off size hpl
      have hnt : ∀ vs, x ≠ .tup vs := by rintro vs rfl; simp at hf
      have hf' : (if x.cells.length ≠ size ∨ off + x.cells.length > cs.length then none else fillT place (cs.take off ++ x.cells ++ cs.drop (off + x.cells.length)) parts) = some cs' := by
        cases x <;> first | exact hf | exact absurd rfl (hnt _)
      split at hf'
      · cases hf'
      · rename_i hcond
        have hsz : x.cells.length = size := by
          rcases Nat.decEq x.cells.length size with hne | he
          · exact absurd (.inl hne) hcond
          · exact he
        have hle : off + x.cells.length ≤ cs.length := Nat.le_of_not_lt fun hlt => hcond (.inr hlt)
        obtain ⟨⟨c1, c2⟩, c3⟩ := RepT.cells e2 hnt
        have c1' : v.cells.size = x.cells.length := by simpa using c1
        have hus : us.length = cs.length := hr.1
        obtain ⟨us', g1, g2, g3⟩ := fill_rep parts vals _ cs' (us.take off ++ v.cells.toList ++ us.drop (off + x.cells.length)) hf' (((hr.take off).append ⟨c1, c2⟩).append (hr.drop _))
          (((ho.take off).append c3).append (ho.drop _)) (by simpa using hl) (fun i p v a b => hp (i + 1) p v (by simpa using a) (by simpa using b))
        refine ⟨us', ?_, g2, g3⟩
        simp only [Instr.fill, hpl]
        rw [if_neg (by simp only [List.size_toArray, ne_eq, Bool.or_eq_true, decide_eq_true_eq, c1', hus, hsz] at *; omega)]
        rw [← g1]
        congr 1
        have e := fold_set off v.cells.toList 0 us.toArray (by simp [c1', hus]; omega)
        simp only [Nat.add_zero] at e
        rw [← Array.foldl_toList, Array.toList_zipIdx]
        rw [e]
        simp [c1']

theorem partsO_some {ρp : Operand → PV} {ρv : Operand → Value} (hρ : ∀ x, RepP F φ h (ρp x) (ρv x)) {parts : Array (Nat × Operand)} {ps : List (Nat × TV)} (hp : partsO ρp parts = some ps) :
    ((parts.map fun (i, x) => (i, ρv x)).toList).length = ps.length ∧ ∀ (i : Nat) (p : Nat × TV) (v : Nat × Value), ps[i]? = some p → ((parts.map fun (i, x) => (i, ρv x)).toList)[i]? = some v → v.1 = p.1 ∧ RepT F p.2 v.2 := by
  obtain ⟨h1, h2⟩ := allO_some hp
  refine ⟨by simp [h1], fun i p v hpi hvi => ?_⟩
  simp only [Array.toList_map, List.getElem?_map, Option.map_eq_some_iff] at hvi
  obtain ⟨q, hq, rfl⟩ := hvi
  have e := h2 i q p hq hpi
  simp only [Option.map_eq_some_iff] at e
  obtain ⟨x, hx, rfl⟩ := e
  exact ⟨rfl, PV.toT_rep hx (hρ q.2)⟩

theorem run_places {fs : Array Field} {pl : List (Nat × Nat)} (hp : placesO P fs = some pl) :
    (fs.mapM (fun f => do pure (f.offset, ← sizeOf f.type)) : Sem (Array (Nat × Nat))).run P w = .ok pl.toArray w := by
  rw [Array.mapM_eq_mapM_toList]
  have key : ∀ (l : List Field) (pl : List (Nat × Nat)), allO (l.map fun f => (szO P f.type).map fun n => (f.offset, n)) = some pl →
      (l.mapM (fun f => do pure (f.offset, ← sizeOf f.type)) : Sem (List (Nat × Nat))).run P w = .ok pl w := by
    intro l
    induction l with
    | nil => intro pl hp; simp [allO] at hp; subst hp; simp
    | cons f l ih =>
      intro pl hp
      simp only [List.map_cons] at hp
      cases hn : szO P f.type with
      | none => rw [hn] at hp; simp [allO] at hp
      | some n =>
        rw [hn] at hp
        simp only [Option.map_some, allO, Option.map_eq_some_iff] at hp
        obtain ⟨pl', hp', rfl⟩ := hp
        simp only [List.mapM_cons, Sem.run_bind, run_sizeOf' hn, Result.andThen_ok, Sem.run_pure, ih pl' hp']
  have e := key fs.toList pl hp
  show ((Array.mk <$> (fs.toList.mapM (fun f => do pure (f.offset, ← sizeOf f.type)) : Sem (List (Nat × Nat)))) : Sem (Array (Nat × Nat))).run P w = _
  rw [Sem.run_map, e]
  rfl

theorem sim_build (H : RH P C F φ h w) {ρp : Operand → PV} {ρv : Operand → Value} (hρ : ∀ x, RepP F φ h (ρp x) (ρv x)) {t : TypeId} {parts : Array (Nat × Operand)} {ps : List (Nat × TV)} {x : TV}
    (hp : partsO ρp parts = some ps) (hx : buildO P t ps = some x) :
    Sim P C h (((do pure (Next.value (← Instr.build t (parts.map fun (i, x) => (i, ρv x))))) : Sem Next).run P w) (.t x) [] := by
  obtain ⟨hl, hps⟩ := partsO_some hρ hp
  unfold buildO at hx
  split at hx
  · rename_i z fs hz hu
    split at hx
    · rename_i pl hpl
      simp only [Option.map_eq_some_iff] at hx
      obtain ⟨cs, hcs, rfl⟩ := hx
      obtain ⟨i, zv, hi, hzz, hr, h1⟩ := zeroL_rep (F := F) hz
      obtain ⟨us', g1, g2, g3⟩ := fill_rep ps _ z cs zv.cells.toList hcs hr h1 hl hps
      refine Sim.quiet H (u := .agg us'.toArray) ?_ (.agg _ _ g2.1 g3 g2.2)
      have g1' : Instr.fill (fun x => pl[x]?) zv.cells (parts.map fun (i, x) => (i, ρv x)).toList = some us'.toArray := by simpa using g1
      simp only [Sem.run_bind, Instr.build, run_zeroValue' hi hzz, Result.andThen_ok, run_underlying' hu, run_places hpl, List.getElem?_toArray, g1', Sem.run_pure]
    · cases hx
  · rename_i z n e hz hu
    split at hx
    · rename_i sz hsz
      simp only [Option.map_eq_some_iff] at hx
      obtain ⟨cs, hcs, rfl⟩ := hx
      obtain ⟨i, zv, hi, hzz, hr, h1⟩ := zeroL_rep (F := F) hz
      obtain ⟨us', g1, g2, g3⟩ := fill_rep ps _ z cs zv.cells.toList hcs hr h1 hl hps
      refine Sim.quiet H (u := .agg us'.toArray) ?_ (.agg _ _ g2.1 g3 g2.2)
      have g1' : Instr.fill (fun i => some (i * sz, sz)) zv.cells (parts.map fun (i, x) => (i, ρv x)).toList = some us'.toArray := by simpa using g1
      simp only [Sem.run_bind, Instr.build, run_zeroValue' hi hzz, Result.andThen_ok, run_underlying' hu, run_sizeOf' hsz, g1', Sem.run_pure]
    · cases hx
  · cases hx

/-- A slice over a new row that is never written again. -/
theorem RepT.row (us : List Value) {cs : List TV} (hr : RepL F cs us) (ho : Ones us) (hle : F.le (F.with w.heap.size us)) (n cap : Nat) (f : Bool) (h1 : n ≤ cap) (h2 : f = true → cap = n) (h3 : cap ≤ maxLen) :
    RepT (F.with w.heap.size us) (.sl cs n f) (.slice (some ⟨w.heap.size, 0, none⟩) n cap) :=
  .sl cs n f _ cap us hr.1 (fun i u hu => ⟨by rw [add_plain, Nat.zero_add, Fz.with_at]; exact hu, ho i u hu⟩) (hr.mono hle).2 h1 h2 h3

theorem fillT_len {place : Nat → Option (Nat × Nat)} : ∀ (parts : List (Nat × TV)) (cells : List TV) {cs : List TV}, fillT place cells parts = some cs → cs.length = cells.length
  | [], cells, cs, h => by simp [fillT] at h; rw [h]
  | (i, v) :: rest, cells, cs, h => by
    unfold fillT at h
    split at h
    · cases h
    · rename_i off size hp
      split at h
      · cases h
      · split at h
        · cases h
        · rename_i hc
          rw [fillT_len rest _ h]
          have : off + v.cells.length ≤ cells.length := by
            rcases Nat.lt_or_ge cells.length (off + v.cells.length) with h1 | h1
            · exact absurd (.inr h1) hc
            · exact h1
          simp only [List.length_append, List.length_take, List.length_drop]; omega
theorem run_buildSliceG {ρp : Operand → PV} {ρv : Operand → Value} (hρ : ∀ x, RepP F φ h (ρp x) (ρv x)) {t : TypeId} {len : Nat} {parts : Array (Nat × Operand)} {ps : List (Nat × TV)} {cs : List TV}
    (hp : partsO ρp parts = some ps) (hx : buildSliceO P t len ps = some cs) :
    ∃ (us' : List Value) (e : TypeId) (n : Nat), sliceO P t = some e ∧ szO P e = some n ∧ 0 < n ∧ cs.length = len * n ∧ len ≤ 100000 ∧ RepL F cs us' ∧ Ones us' ∧
      (((do pure (Next.value (← Instr.buildSlice t len (parts.map fun (i, x) => (i, ρv x))))) : Sem Next).run P w) = .ok (.value (.slice (some ⟨w.heap.size, 0, none⟩) len len)) (w.alloc (.cells us'.toArray e)) := by
  obtain ⟨hl, hps⟩ := partsO_some hρ hp
  unfold buildSliceO at hx
  split at hx
  · rename_i e he
    split at hx
    · rename_i n z hsz hz
      split at hx
      · rename_i hcond
        obtain ⟨c1, c2, c3⟩ := hcond
        obtain ⟨i, zv, hi, hzz, hr, h1⟩ := zeroL_rep (F := F) hz
        have hzs : zv.cells.size = n := by have := hr.1; simp at this; omega
        let us0 : List Value := (List.range (len * n)).map fun i => zv.cells[i % n]!
        have hr0 : RepL F ((List.range (len * n)).map fun i => z.getD (i % n) .nilPtr) us0 := by
          refine ⟨by simp [us0], fun i c u hc hu => ?_⟩
          simp only [us0, List.getElem?_map, Option.map_eq_some_iff] at hc hu
          obtain ⟨a, ha, rfl⟩ := hc
          obtain ⟨b, hb, rfl⟩ := hu
          rw [ha] at hb; cases hb
          have hlt : a % n < n := Nat.mod_lt _ c3
          refine hr.2 (a % n) _ _ ?_ ?_
          · rw [List.getD_eq_getElem?_getD, List.getElem?_eq_getElem (by omega)]; rfl
          · rw [getElem!_pos zv.cells (a % n) (by omega)]; simp [hzs, hlt]
        have ho0 : Ones us0 := fun i u hu => by
          simp only [us0, List.getElem?_map, Option.map_eq_some_iff] at hu
          obtain ⟨b, hb, rfl⟩ := hu
          have hlt : b % n < n := Nat.mod_lt _ c3
          rw [getElem!_pos zv.cells (b % n) (by omega)]
          exact h1 (b % n) _ (by simp [hzs, hlt])
        obtain ⟨us', g1, g2, g3⟩ := fill_rep ps _ _ cs us0 hx hr0 ho0 hl hps
        have hlen : cs.length = len * n := by have := fillT_len ps _ hx; simpa using this
        refine ⟨us', e, n, he, hsz, c3, hlen, Nat.le_trans (Nat.le_mul_of_pos_right len c3) c1, g2, g3, ?_⟩
        have hnot : ¬ (len * n > 2 ^ 24) := by omega
        have g1' : Instr.fill (fun i => some (i * n, n)) us0.toArray (parts.map fun (i, x) => (i, ρv x)).toList = some us'.toArray := g1
        simp only [Sem.run_bind, Instr.buildSlice, run_underlying' (sliceO_some he), Result.andThen_ok, run_sizeOf' hsz, Sem.run_ite]
        rw [if_neg hnot]
        by_cases h0 : len * n = 0
        · have eA : ((Array.range (len * n)).map ((#[] : Array Value)[· % (#[] : Array Value).size]!)) = us0.toArray := by
            apply Array.ext'; simp [us0, h0]
          rw [if_pos h0]
          simp only [Sem.run_bind, Sem.run_pure, Result.andThen_ok, eA, g1', newRow, run_newObj]
          rfl
        · have eA : ((Array.range (len * n)).map (zv.cells[· % zv.cells.size]!)) = us0.toArray := by
            apply Array.ext'; simp [us0, hzs]
          rw [if_neg h0]
          simp only [Sem.run_bind, run_zeroValue' hi hzz, Sem.run_pure, Result.andThen_ok, eA, g1', newRow, run_newObj]
          rfl
      · cases hx
    · cases hx
  · cases hx
theorem sim_buildSlice (H : RH P C F φ h w) {ρp : Operand → PV} {ρv : Operand → Value} (hρ : ∀ x, RepP F φ h (ρp x) (ρv x)) {t : TypeId} {len : Nat} {parts : Array (Nat × Operand)} {ps : List (Nat × TV)} {cs : List TV}
    (hp : partsO ρp parts = some ps) (hx : buildSliceO P t len ps = some cs) :
    Sim P C h (((do pure (Next.value (← Instr.buildSlice t len (parts.map fun (i, x) => (i, ρv x))))) : Sem Next).run P w) (.t (.sl cs len true)) [] := by
  obtain ⟨us', e, n, _, _, _, _, h5, g2, g3, hrun⟩ := run_buildSliceG (w := w) hρ hp hx
  exact ⟨_, φ, .slice (some ⟨w.heap.size, 0, none⟩) len len, _, .inl hrun, H.allocRow us' e, RepT.row us' g2 g3 (Fz.le_with H us') len len true (Nat.le_refl _) (fun _ => rfl) (by unfold maxLen; omega)⟩

/-- Cells of values, not nec. trees. -/
def RepG (F : Fz) (φ : Nat → Nat × Nat) (h : Hp) (ps : List PV) (us : List Value) : Prop := us.length = ps.length ∧ ∀ (i : Nat) (p : PV) (u : Value), ps[i]? = some p → us[i]? = some u → RepP F φ h p u ∧ u.oneCell' = true
theorem RepG.of_t {cs : List TV} {us : List Value} (hr : RepL F cs us) (ho : Ones us) : RepG F φ h (cs.map .t) us :=
  ⟨by simpa using hr.1, fun i p u hp hu => by obtain ⟨x, hx, rfl⟩ := getElem?_map_t hp; exact ⟨hr.2 i x u hx hu, ho i u hu⟩⟩
theorem RepG.append {ps qs : List PV} {us vs : List Value} (a : RepG F φ h ps us) (b : RepG F φ h qs vs) : RepG F φ h (ps ++ qs) (us ++ vs) := by
  refine ⟨by simp [a.1, b.1], fun i q v h1 h2 => ?_⟩
  by_cases hi : i < ps.length
  · rw [List.getElem?_append_left hi] at h1
    rw [List.getElem?_append_left (by rw [a.1]; exact hi)] at h2
    exact a.2 i q v h1 h2
  · rw [List.getElem?_append_right (Nat.le_of_not_lt hi)] at h1
    rw [List.getElem?_append_right (by rw [a.1]; exact Nat.le_of_not_lt hi), a.1] at h2
    exact b.2 _ q v h1 h2
theorem RepG.toL {ps : List PV} {us : List Value} {xs : List TV} (hr : RepG F φ h ps us) (hx : allO (ps.map PV.toT) = some xs) : RepL F xs us ∧ Ones us := by
  obtain ⟨e1, e2⟩ := allO_some hx
  have hlt : ∀ (i : Nat) (u : Value), us[i]? = some u → i < ps.length := fun i u hu => by have := (List.getElem?_eq_some_iff.1 hu).1; have := hr.1; omega
  exact ⟨⟨by rw [hr.1, e1], fun i c u hc hu => PV.toT_rep (e2 i _ c (List.getElem?_eq_getElem (hlt i u hu)) hc) (hr.2 i _ u (List.getElem?_eq_getElem (hlt i u hu)) hu).1⟩,
    fun i u hu => (hr.2 i _ u (List.getElem?_eq_getElem (hlt i u hu)) hu).2⟩

/-- A new row that is written. -/
theorem newGrow (H : RH P C F φ h w) {rid : Nat} (hres : h rid = .res) {cs : List PV} {us rest : List Value} {n cap sz : Nat} {e : TypeId} (hr : RepG F φ h cs us) (hlen : us.length = n * sz) (hrest : us.length + rest.length = cap * sz) (hn : n ≤ cap) (hm : cap ≤ maxLen) (hsz : P.cellsOf e = sz) :
    RH P C F (upd φ rid (w.heap.size, cap)) (upo h rid (.grow 0 cs e sz)) (w.alloc (.cells (us ++ rest).toArray e)) ∧
      RepP F (upd φ rid (w.heap.size, cap)) (upo h rid (.grow 0 cs e sz)) (.gsl rid 0 sz 0 n false) (.slice (some ⟨w.heap.size, 0, none⟩) n cap) := by
  have hs := HStep.put (φ := φ) hres (w.heap.size, cap) (.grow 0 cs e sz)
  refine ⟨H.allocGrow (us ++ rest) e cap cs hs (by simpa using hrest) (by have := hr.1; simp; omega) hsz (fun i c u hc hu => ?_), 0, e, cap, _, by rw [upo_same]; rfl, Nat.le_refl _, rfl, hn, hm, fun e => (by cases e), fun _ => ?_⟩
  · have hi : i < us.length := by have := (List.getElem?_eq_some_iff.1 hc).1; have := hr.1; omega
    rw [List.getElem?_append_left hi] at hu
    exact hr.2 i c u hc hu
  · rw [upd_same]
    exact ⟨by simp, fun _ => by simp, fun _ => by simp⟩

theorem sim_buildSliceM (H : RH P C F φ h w) {ρp : Operand → PV} {ρv : Operand → Value} (hρ : ∀ x, RepP F φ h (ρp x) (ρv x)) {t : TypeId} {len sz rid : Nat} {e : TypeId} {parts : Array (Nat × Operand)} {ps : List (Nat × TV)} {cs : List TV}
    (hp : partsO ρp parts = some ps) (hx : buildSliceO P t len ps = some cs) (he : sliceO P t = some e) (hsz : szO P e = some sz) (hc : P.cellsOf e = sz) (hres : h rid = .res) :
    Sim P C h (((do pure (Next.value (← Instr.buildSlice t len (parts.map fun (i, x) => (i, ρv x))))) : Sem Next).run P w) (.gsl rid 0 sz 0 len false) [(rid, .grow 0 (cs.map .t) e sz)] := by
  obtain ⟨us', e', n, h1, h2, h3, h4, h5, g2, g3, hrun⟩ := run_buildSliceG (w := w) hρ hp hx
  rw [he] at h1; cases h1
  rw [hsz] at h2; cases h2
  have hl : us'.length = len * sz := by rw [g2.1, h4]
  obtain ⟨a, b⟩ := newGrow H (rest := []) hres (RepG.of_t (φ := φ) (h := h) g2 g3) hl (by simpa using hl) (Nat.le_refl _) (by unfold maxLen; omega) hc
  rw [List.append_nil] at a
  exact ⟨F, _, _, _, .inl hrun, a, b⟩

end Go.Pm
