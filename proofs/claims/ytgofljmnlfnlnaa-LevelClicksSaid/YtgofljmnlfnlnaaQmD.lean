/- The pure machine, part D: each operation in memory does what it does here. -/
import Derived.Test.YtgofljmnlfnlnaaQmC
import Derived.ArgAppend
import Derived.Maps.AppendAt
namespace Go.Pm
open Go Go.RowKit

variable {P : Program} {C : Cx} {F F' : Fz} {φ φ' : Nat → Nat × Nat} {h h' : Hp} {w w' : World}

theorem ofVal_rep {v : Value} {x : TV} (hv : ofVal v = some x) : RepT F x v ∧ v.oneCell' = true := by
  unfold ofVal at hv
  split at hv <;> simp at hv <;> subst hv <;> exact ⟨by constructor, rfl⟩
theorem allO_some {α β : Type} {f : α → Option β} : ∀ {l : List α} {r : List β}, allO (l.map f) = some r → r.length = l.length ∧ ∀ (i : Nat) (a : α) (b : β), l[i]? = some a → r[i]? = some b → f a = some b
  | [], r, hr => by simp [allO] at hr; subst hr; simp
  | a :: l, r, hr => by
    simp only [List.map_cons] at hr
    cases hf : f a with
    | none => rw [hf] at hr; simp [allO] at hr
    | some b =>
      rw [hf] at hr
      simp only [allO, Option.map_eq_some_iff] at hr
      obtain ⟨r', hr', rfl⟩ := hr
      obtain ⟨h1, h2⟩ := allO_some hr'
      refine ⟨by simp [h1], fun i x y hx hy => ?_⟩
      cases i with
      | zero => simp at hx hy; subst hx; subst hy; exact hf
      | succ i => simp at hx hy; exact h2 i x y hx hy
theorem allO_at {α β : Type} {f : α → Option β} {l : List α} {r : List β} (hr : allO (l.map f) = some r) {i : Nat} {a : α} (ha : l[i]? = some a) : ∃ b, r[i]? = some b ∧ f a = some b := by
  obtain ⟨h1, h2⟩ := allO_some hr
  have hi : i < r.length := by have := (List.getElem?_eq_some_iff.1 ha).1; omega
  exact ⟨r[i], List.getElem?_eq_getElem hi, h2 i a _ ha (List.getElem?_eq_getElem hi)⟩

theorem zeroL_rep {t : TypeId} {zs : List TV} (hz : zeroL P t = some zs) : ∃ i z, P.info? t = some i ∧ i.zero = some z ∧ RepL F zs z.cells.toList ∧ ∀ (i : Nat) (u : Value), z.cells.toList[i]? = some u → u.oneCell' = true := by
  unfold zeroL at hz
  cases hi : P.info? t with
  | none => rw [hi] at hz; cases hz
  | some i =>
    rw [hi] at hz
    simp only at hz
    cases hzz : i.zero with
    | none => rw [hzz] at hz; cases hz
    | some z =>
      rw [hzz] at hz
      simp only at hz
      obtain ⟨h1, h2⟩ := allO_some hz
      refine ⟨i, z, rfl, hzz, ⟨h1.symm, fun j c u a b => (ofVal_rep (h2 j u c b a)).1⟩, fun j u hu => ?_⟩
      obtain ⟨c, _, hc2⟩ := allO_at hz hu
      exact (ofVal_rep (F := F) hc2).2

theorem run_zeroValue' {t : TypeId} {i : TypeInfo} {z : Value} (hi : P.info? t = some i) (hz : i.zero = some z) : (zeroValue t).run P w = .ok z w := by
  simp [zeroValue, typeInfo, hi, hz]
theorem run_sizeOf' {t : TypeId} {n : Nat} (hn : szO P t = some n) : (sizeOf t).run P w = .ok n w := by
  unfold szO at hn
  cases hi : P.info? t with
  | none => rw [hi] at hn; cases hn
  | some i => rw [hi] at hn; simp at hn; simp [sizeOf, typeInfo, hi, hn]
theorem run_isAgg' {t : TypeId} {b : Bool} (hb : aggO P t = some b) : (isAgg t).run P w = .ok b w := by
  unfold aggO at hb
  cases hi : P.underlying t with
  | none => rw [hi] at hb; cases hb
  | some d => rw [hi] at hb; simp at hb; subst hb; cases d <;> simp [isAgg, underlying, hi]
theorem run_underlying' {t : TypeId} {d : TypeDesc} (hd : P.underlying t = some d) : (underlying t).run P w = .ok d w := run_underlying hd w

/-- A part of a struct's or an array's cells. -/
theorem part_rep {t : TypeId} {cs : List TV} {us : List Value} {off : Nat} {x : TV} (hx : partT P t cs off = some x) (hr : RepL F cs us) (h1 : ∀ (i : Nat) (u : Value), us[i]? = some u → u.oneCell' = true) :
    ∃ u, (part t us.toArray off).run P w = .ok u w ∧ RepT F x u := by
  unfold partT at hx
  cases ha : aggO P t with
  | none => rw [ha] at hx; cases hx
  | some b =>
    rw [ha] at hx
    cases b with
    | true =>
      simp only at hx
      cases hn : szO P t with
      | none => rw [hn] at hx; cases hx
      | some n =>
        rw [hn] at hx
        simp only at hx
        split at hx
        · rename_i hle
          cases hx
          refine ⟨.agg ((us.drop off).take n).toArray, ?_, .agg _ _ (by simp [hr.1]) (fun i u hu => ?_) ((hr.drop off).take n).2⟩
          · simp only [part, Sem.run_bind, run_isAgg' ha, Result.andThen_ok, if_true, run_sizeOf' hn, Sem.run_pure]
            congr 2
            apply Array.ext'
            simp [List.take_drop]
          · rw [List.getElem?_take] at hu
            split at hu
            · rw [List.getElem?_drop] at hu; exact h1 _ _ hu
            · cases hu
        · cases hx
    | false =>
      simp only at hx
      have hi : off < us.length := by have := (List.getElem?_eq_some_iff.1 hx).1; have := hr.1; omega
      refine ⟨us[off], ?_, hr.2 off x _ hx (List.getElem?_eq_getElem hi)⟩
      simp only [part, Sem.run_bind, run_isAgg' ha, Result.andThen_ok, Bool.false_eq_true, if_false, List.getElem?_toArray, List.getElem?_eq_getElem hi, Sem.run_pure]

/-- A variable's cells, where they are known. -/
theorem loadVar_rep {t : TypeId} {cs : List TV} {us : List Value} {a : Addr} {x : TV} (hx : partT P t cs 0 = some x) (hr : RepL F cs us) (h1 : ∀ (i : Nat) (u : Value), us[i]? = some u → u.oneCell' = true)
    (hc : ∀ (i : Nat) (u : Value), us[i]? = some u → w.cell? (a.add i) = some u) : ∃ u, (loadVar t a).run P w = .ok u w ∧ RepT F x u := by
  unfold partT at hx
  cases ha : aggO P t with
  | none => rw [ha] at hx; cases hx
  | some b =>
    rw [ha] at hx
    cases b with
    | true =>
      simp only at hx
      cases hn : szO P t with
      | none => rw [hn] at hx; cases hx
      | some n =>
        rw [hn] at hx
        simp only at hx
        split at hx
        · rename_i hle
          cases hx
          simp only [Nat.zero_add] at hle
          have hlen : (us.take n).length = n := by rw [List.length_take, hr.1]; omega
          refine ⟨.agg (us.take n).toArray, ?_, .agg _ _ (by simp [hr.1]) (fun i u hu => ?_) (by simpa using (hr.take n).2)⟩
          · have hl := run_loadCells_list (P := P) w a (us.take n) (fun j v hv => by
              rw [List.getElem?_take] at hv
              split at hv
              · exact hc j v hv
              · cases hv)
            rw [hlen] at hl
            simp only [loadVar, Sem.run_bind, run_isAgg' ha, Result.andThen_ok, if_true, run_sizeOf' hn, hl, Sem.run_pure]
          · rw [List.getElem?_take] at hu
            split at hu
            · exact h1 _ _ hu
            · cases hu
        · cases hx
    | false =>
      simp only at hx
      have hi : 0 < us.length := by have := (List.getElem?_eq_some_iff.1 hx).1; have := hr.1; omega
      have hc0 := hc 0 us[0] (List.getElem?_eq_getElem hi)
      rw [add_zero] at hc0
      refine ⟨us[0], ?_, hr.2 0 x _ hx (List.getElem?_eq_getElem hi)⟩
      simp only [loadVar, Sem.run_bind, run_isAgg' ha, Result.andThen_ok, Bool.false_eq_true, if_false, run_load, hc0]

theorem getElem?_map_t {xs : List TV} {i : Nat} {p : PV} (hp : (xs.map PV.t)[i]? = some p) : ∃ x, xs[i]? = some x ∧ p = .t x := by
  rw [List.getElem?_map] at hp
  cases hx : xs[i]? with
  | none => rw [hx] at hp; cases hp
  | some x => rw [hx] at hp; cases hp; exact ⟨x, rfl, rfl⟩

/-- The cells of a value that is put into a variable. -/
theorem pcells_rep {p : PV} {cs : List PV} {u : Value} (hp : pcells p = some cs) (hr : RepP F φ h p u) :
    u.cells.toList.length = cs.length ∧ ∀ (i : Nat) (c : PV) (v : Value), cs[i]? = some c → u.cells.toList[i]? = some v → RepP F φ h c v ∧ v.oneCell' = true := by
  have lone : ∀ p : PV, RepP F φ h p u → u.oneCell' = true → u.cells.toList.length = [p].length ∧ ∀ (i : Nat) (c : PV) (v : Value), [p][i]? = some c → u.cells.toList[i]? = some v → RepP F φ h c v ∧ v.oneCell' = true := by
    intro p hr ho
    have hcl : u.cells = #[u] := by cases u <;> first | rfl | (simp [Value.oneCell'] at ho)
    rw [hcl]
    refine ⟨by simp, fun i c v hc hv => ?_⟩
    cases i <;> simp at hc hv
    subst hc; subst hv; exact ⟨hr, ho⟩
  induction p generalizing cs u with
  | t x =>
    have hnt : ∀ vs, x ≠ .tup vs := by rintro vs rfl; simp [pcells] at hp
    have hcs : cs = x.cells.map .t := by
      cases x <;> simp only [pcells, Option.some.injEq, reduceCtorEq] at hp <;> exact hp.symm
    subst hcs
    obtain ⟨⟨h1, h2⟩, h3⟩ := RepT.cells hr hnt
    refine ⟨by simpa using h1, fun i c v hc hv => ?_⟩
    obtain ⟨y, hy, rfl⟩ := getElem?_map_t hc
    exact ⟨h2 i y v hy hv, h3 i v hv⟩
  | ptr id off =>
    simp only [pcells, Option.some.injEq] at hp; subst hp
    obtain ⟨hb, rfl⟩ := hr
    refine ⟨by simp [Value.cells], fun i c v hc hv => ?_⟩
    cases i <;> simp [Value.cells] at hc hv
    subst hc; subst hv; exact ⟨⟨hb, rfl⟩, rfl⟩
  | own xs n id =>
    simp only [pcells, Option.some.injEq] at hp; subst hp
    have ho : u.oneCell' = true := by
      rcases Nat.eq_zero_or_pos n with h0 | h0
      · rw [(hr.1 h0).2]; rfl
      · exact (hr.2.1 h0).oneCell rfl
    have hcl : u.cells = #[u] := by cases u <;> first | rfl | (simp [Value.oneCell'] at ho)
    rw [hcl]
    refine ⟨by simp, fun i c v hc hv => ?_⟩
    cases i <;> simp at hc hv
    subst hc; subst hv; exact ⟨hr, ho⟩
  | fnc f ids =>
    simp only [pcells, Option.some.injEq] at hp; subst hp
    obtain ⟨hb, rfl⟩ := hr
    refine ⟨by simp [Value.cells], fun i c v hc hv => ?_⟩
    cases i <;> simp [Value.cells] at hc hv
    subst hc; subst hv; exact ⟨⟨hb, rfl⟩, rfl⟩
  | yld l =>
    simp only [pcells, Option.some.injEq] at hp; subst hp
    have hr' : u = .func (.yield l) #[] #[] := hr
    subst hr'
    refine ⟨by simp [Value.cells], fun i c v hc hv => ?_⟩
    cases i <;> simp [Value.cells] at hc hv
    subst hc; subst hv; exact ⟨hr, rfl⟩
  | gsl id ver sz o n full =>
    simp only [pcells, Option.some.injEq] at hp; subst hp
    exact lone _ hr (by obtain ⟨_, _, _, _, _, _, h1, _⟩ := hr; rw [h1]; rfl)
  | gptr id ver off =>
    simp only [pcells, Option.some.injEq] at hp; subst hp
    exact lone _ hr (by obtain ⟨_, _, _, _, _, _, h1, _⟩ := hr; rw [h1]; rfl)
  | mapr id =>
    simp only [pcells, Option.some.injEq] at hp; subst hp
    exact lone _ hr (by obtain ⟨_, _, rfl⟩ := hr; rfl)
  | nil b =>
    cases b with
    | true => simp [pcells] at hp
    | false =>
      simp [pcells] at hp; subst hp
      have hr' : u = .agg #[] := hr
      subst hr'
      exact ⟨rfl, fun i c v hc => by simp at hc⟩
  | cons b p q ih1 ih2 =>
    cases b with
    | true => simp [pcells] at hp
    | false =>
      simp only [pcells, Bool.false_eq_true, if_false, Option.map_eq_some_iff] at hp
      obtain ⟨cs', hcs', rfl⟩ := hp
      obtain ⟨v, us, rfl, r1, r2, r3⟩ := hr
      obtain ⟨e1, e2⟩ := ih2 hcs' r2 (fun p hr ho => by simp [mkV, Value.oneCell'] at ho)
      simp only [mkV, Bool.false_eq_true, if_false, Value.cells] at e1 e2 ⊢
      refine ⟨by simpa using e1, fun i c v' hc hv => ?_⟩
      cases i with
      | zero => simp at hc hv; subst hc; subst hv; exact ⟨r1, r3 rfl⟩
      | succ i => simp at hc hv; exact e2 i c v' hc (by simpa using hv)
  | cond => simp [pcells] at hp
  | junk => simp [pcells] at hp

theorem consP_rep {b : Bool} : ∀ {ps : List PV} {us : List Value}, us.length = ps.length → (∀ (i : Nat) (p : PV) (u : Value), ps[i]? = some p → us[i]? = some u → RepP F φ h p u ∧ (b = false → u.oneCell' = true)) → RepP F φ h (consP b ps) (mkV b us)
  | [], [], _, _ => rfl
  | p :: ps, u :: us, hl, hr => ⟨u, us, rfl, (hr 0 p u rfl rfl).1, consP_rep (by simpa using hl) (fun i q v h1 h2 => hr (i + 1) q v (by simpa using h1) (by simpa using h2)), (hr 0 p u rfl rfl).2⟩
  | [], _ :: _, hl, _ => by simp at hl
  | _ :: _, [], hl, _ => by simp at hl
theorem aggP_rep {b : Bool} {ps : List PV} {us : List Value} (hl : us.length = ps.length) (hr : ∀ (i : Nat) (p : PV) (u : Value), ps[i]? = some p → us[i]? = some u → RepP F φ h p u ∧ (b = false → u.oneCell' = true)) : RepP F φ h (aggP b ps) (mkV b us) := by
  unfold aggP
  split
  · rename_i xs hxs
    obtain ⟨e1, e2⟩ := allO_some hxs
    have key : ∀ (i : Nat) (c : TV) (u : Value), xs[i]? = some c → us[i]? = some u → RepT F c u := fun i c u hc hu => by
      have hi : i < ps.length := by have := (List.getElem?_eq_some_iff.1 hu).1; omega
      exact PV.toT_rep (e2 i _ c (List.getElem?_eq_getElem hi) hc) (hr i _ u (List.getElem?_eq_getElem hi) hu).1
    cases b with
    | true => exact RepT.tup _ _ (by omega) key
    | false => exact RepT.agg _ _ (by omega) (fun i u hu => by
        have hi : i < ps.length := by have := (List.getElem?_eq_some_iff.1 hu).1; omega
        exact (hr i _ u (List.getElem?_eq_getElem hi) hu).2 rfl) key
  · exact consP_rep hl hr

def Gives (r : Result Next) (u : Value) (w' : World) : Prop := r = .ok (.value u) w' ∨ (r = .ok .skip w' ∧ u = undef)

/-- What a step owes. -/
def Sim (P : Program) (C : Cx) (h : Hp) (r : Result Next) (v : PV) (W : Wr) : Prop :=
  ∃ F' φ' u w', Gives r u w' ∧ RH P C F' φ' (wr h W) w' ∧ RepP F' φ' (wr h W) v u

theorem Sim.quiet (H : RH P C F φ h w) {r : Result Next} {v : PV} {u : Value} (hr : r = .ok (.value u) w) (hv : RepP F φ h v u) : Sim P C h r v [] :=
  ⟨F, φ, u, w, .inl hr, H, hv⟩

theorem sim_alloc (H : RH P C F φ h w) {e : TypeId} {zs : List TV} {rid : Nat} (hz : zeroL P e = some zs) (hres : h rid = .res) :
    Sim P C h (((do pure (Next.value (← Instr.alloc e true (.tuple #[]))) : Sem Next)).run P w) (.ptr rid 0) [(rid, .box (zs.map .t))] := by
  obtain ⟨i, z, hi, hzz, hr, h1⟩ := zeroL_rep (F := F) hz
  obtain ⟨a, b⟩ := H.allocBox hres z.cells.toList e (zs.map .t) (by simpa using hr.1) (fun j c u hc hu => by
    obtain ⟨x, hx, rfl⟩ := getElem?_map_t hc
    exact ⟨hr.2 j x u hx hu, h1 j u hu⟩)
  refine ⟨F, _, _, _, .inl ?_, a, b⟩
  simp only [Sem.run_bind, Instr.alloc, run_zeroValue' hi hzz, Result.andThen_ok, newVar, newRow, run_newObj, Sem.run_pure]
  simp

theorem sim_box (H : RH P C F φ h w) {e : TypeId} {p : PV} {u : Value} {cs : List PV} {rid : Nat} (hp : pcells p = some cs) (hr : RepP F φ h p u) (hres : h rid = .res) :
    Sim P C h (((do pure (Next.value (← Instr.box e u)) : Sem Next)).run P w) (.ptr rid 0) [(rid, .box cs)] := by
  obtain ⟨h1, h2⟩ := pcells_rep hp hr
  obtain ⟨a, b⟩ := H.allocBox hres u.cells.toList e cs h1 h2
  refine ⟨F, _, _, _, .inl ?_, a, b⟩
  simp only [Sem.run_bind, Instr.box, newVar, newRow, run_newObj, Result.andThen_ok, Sem.run_pure]
  simp

theorem loadB_rep {t : TypeId} {b off : Nat} {cells : List PV} {us : List Value} {ty : TypeId} {x : PV} (h1 : w.heap[b]? = some (.cells us.toArray ty (0, 0))) (h2 : cells.length ≤ us.length)
    (h3 : ∀ (i : Nat) (c : PV) (u : Value), cells[i]? = some c → us[i]? = some u → RepP F φ h c u ∧ u.oneCell' = true) (hx : loadB P t cells off = some x) :
    ∃ u, (loadVar t ⟨b, off, none⟩).run P w = .ok u w ∧ RepP F φ h x u := by
  have hcell : ∀ (i : Nat) (u : Value), (us.drop off)[i]? = some u → w.cell? ((⟨b, off, none⟩ : Addr).add i) = some u := fun i u hu => by
    rw [add_plain, cell_at h1]; rw [List.getElem?_drop] at hu; exact hu
  unfold loadB at hx
  cases ha : aggO P t with
  | none => rw [ha] at hx; cases hx
  | some b =>
    rw [ha] at hx
    cases b with
    | true =>
      simp only at hx
      cases hn : szO P t with
      | none => rw [hn] at hx; cases hx
      | some n =>
        rw [hn] at hx
        simp only at hx
        split at hx
        · rename_i hle
          cases hx
          have hlen : ((us.drop off).take n).length = n := by simp only [List.length_take, List.length_drop]; omega
          have hrun : (loadVar t ⟨b, off, none⟩).run P w = .ok (.agg ((us.drop off).take n).toArray) w := by
            have hl := run_loadCells_list (P := P) w ⟨b, off, none⟩ ((us.drop off).take n) (fun j v hv => by
              rw [List.getElem?_take] at hv
              split at hv
              · exact hcell j v hv
              · cases hv)
            rw [hlen] at hl
            simp only [loadVar, Sem.run_bind, run_isAgg' ha, Result.andThen_ok, if_true, run_sizeOf' hn, hl, Sem.run_pure]
          refine ⟨.agg ((us.drop off).take n).toArray, hrun, aggP_rep (b := false) (by simp only [List.length_take, List.length_drop]; omega) (fun i c u hc hu => ?_)⟩
          have hu' : us[off + i]? = some u := by
            rw [List.getElem?_take] at hu
            split at hu
            · rw [List.getElem?_drop] at hu; exact hu
            · cases hu
          have hc' : cells[off + i]? = some c := by
            rw [List.getElem?_take] at hc
            split at hc
            · rw [List.getElem?_drop] at hc; exact hc
            · cases hc
          exact ⟨(h3 _ c u hc' hu').1, fun _ => (h3 _ c u hc' hu').2⟩
        · cases hx
    | false =>
      simp only at hx
      have hlt : off < us.length := by have := (List.getElem?_eq_some_iff.1 hx).1; omega
      have hc0 := hcell 0 us[off] (by simp [hlt])
      rw [add_zero] at hc0
      refine ⟨us[off], ?_, (h3 off x us[off] hx (List.getElem?_eq_getElem hlt)).1⟩
      simp only [loadVar, Sem.run_bind, run_isAgg' ha, Result.andThen_ok, Bool.false_eq_true, if_false, run_load, hc0]

theorem load_ptr_quiet (H : RH P C F φ h w) {t : TypeId} {id off : Nat} {cells : List PV} {x : PV} (hid : h id = .box cells) (hx : loadB P t cells off = some x) :
    ∃ u, (loadVar t ⟨(φ id).1, off, none⟩).run P w = .ok u w ∧ RepP F φ h x u := by
  have hob := H.objs id
  rw [hid] at hob
  obtain ⟨us, ty, h1, h2, h3, h4⟩ := hob
  exact loadB_rep h1 (by omega) h3 hx

theorem growCells_some {o : PO} {ver : Nat} {cells : List PV} (hg : growCells o ver = some cells) : ∃ e sz, growInfo o = some (ver, e, sz) := by
  unfold growCells at hg
  split at hg
  · split at hg
    · rename_i v c e sz hv; subst hv; exact ⟨e, sz, rfl⟩
    · cases hg
  · split at hg
    · rename_i v c e sz hv; subst hv; exact ⟨e, sz, rfl⟩
    · cases hg
  · cases hg
/-- A row, in memory. -/
theorem row_at (H : RH P C F φ h w) {id ver : Nat} {cells : List PV} (hg : growCells (h id) ver = some cells) : ∃ (us : List Value) (e : TypeId) (sz : Nat), growInfo (h id) = some (ver, e, sz) ∧ w.heap[(φ id).1]? = some (.cells us.toArray e (0, 0)) ∧
    us.length = (φ id).2 * sz ∧ cells.length ≤ us.length ∧ P.cellsOf e = sz ∧ ∀ (i : Nat) (c : PV) (u : Value), cells[i]? = some c → us[i]? = some u → RepP F φ h c u ∧ u.oneCell' = true := by
  have hob := H.objs id
  unfold growCells at hg
  split at hg
  · rename_i v c e sz hid
    split at hg
    · rename_i hv; subst hv
      cases hg
      rw [hid] at hob
      obtain ⟨us, h1, h2, h3, h4, h5, h6⟩ := hob
      exact ⟨us, e, sz, by rw [hid]; rfl, h1, h2, h3, h4, h5⟩
    · cases hg
  · rename_i v c e sz hid
    split at hg
    · rename_i hv; subst hv
      cases hg
      rw [hid] at hob
      obtain ⟨us, h1, h2, h3, h4, h5⟩ := hob
      refine ⟨us, e, sz, by rw [hid]; rfl, h1, h2, by simpa using h3, h4, fun i c u hc hu => ?_⟩
      obtain ⟨x, hx, rfl⟩ := getElem?_map_t hc
      exact ⟨(h5 i x u hx hu).1, (h5 i x u hx hu).2.1⟩
    · cases hg
  · cases hg

theorem sim_load_gptr (H : RH P C F φ h w) {t : TypeId} {id ver off : Nat} {cells : List PV} {x : PV} {u : Value} (hg : growCells (h id) ver = some cells) (hu : RepP F φ h (.gptr id ver off) u) (hx : loadB P t cells off = some x) :
    Sim P C h (((do pure (Next.value (← Instr.loadAt t u)) : Sem Next)).run P w) x [] := by
  obtain ⟨us, e, sz, h0, h1, h2, h3, h4, h5⟩ := row_at H hg
  obtain ⟨v, e', sz', a, g1, g2, rfl, g4⟩ := hu
  rw [h0] at g1; cases g1
  have := g4 rfl; subst this
  obtain ⟨u, hu, hr⟩ := loadB_rep (P := P) h1 h3 h5 hx
  refine Sim.quiet H (u := u) ?_ hr
  simp only [Sem.run_bind, Instr.loadAt, Instr.sureAddr, Sem.run_pure, Result.andThen_ok, hu]

theorem sim_load_ptr (H : RH P C F φ h w) {t : TypeId} {id off : Nat} {cells : List PV} {x : PV} (hid : h id = .box cells) (hx : loadB P t cells off = some x) :
    Sim P C h (((do pure (Next.value (← Instr.loadAt t (.pointer (some ⟨(φ id).1, off, none⟩)))) : Sem Next)).run P w) x [] := by
  obtain ⟨u, hu, hr⟩ := load_ptr_quiet H hid hx
  refine Sim.quiet H (u := u) ?_ hr
  simp only [Sem.run_bind, Instr.loadAt, Instr.sureAddr, Sem.run_pure, Result.andThen_ok, hu]

theorem sim_load_ro (H : RH P C F φ h w) {t : TypeId} {id off : Nat} {cells : List TV} {x : TV} (hid : h id = .ro cells) (hx : partT P t (cells.drop off) 0 = some x) :
    Sim P C h (((do pure (Next.value (← Instr.loadAt t (.pointer (some ⟨(φ id).1, off, none⟩)))) : Sem Next)).run P w) (.t x) [] := by
  have hob := H.objs id
  rw [hid] at hob
  obtain ⟨us, ty, h1, h2, h3, h4⟩ := hob
  obtain ⟨v, hv, hrep⟩ := loadVar_rep (P := P) (w := w) (a := ⟨(φ id).1, off, none⟩) hx (h2.drop off) (fun i u hu => h3 (off + i) u (by simpa using hu)) (fun i u hu => by
    rw [add_plain, cell_at h1]; simpa using hu)
  refine Sim.quiet H (u := v) ?_ hrep
  simp only [Sem.run_bind, Instr.loadAt, Instr.sureAddr, Sem.run_pure, Result.andThen_ok, hv]

theorem sim_load_cptr (H : RH P C F φ h w) {t : TypeId} {cs : List TV} {u : Value} {x : TV} (hu : RepT F (.cptr cs) u) (hx : partT P t cs 0 = some x) :
    Sim P C h (((do pure (Next.value (← Instr.loadAt t u)) : Sem Next)).run P w) (.t x) [] := by
  cases hu with
  | cptr _ a us hl hF hr =>
    obtain ⟨v, hv, hrep⟩ := loadVar_rep (P := P) (w := w) (a := a) hx ⟨hl, hr⟩ (fun i u hu => (hF i u hu).2) (fun i u hu => H.agree _ _ (hF i u hu).1)
    refine Sim.quiet H (u := v) ?_ hrep
    simp only [Sem.run_bind, Instr.loadAt, Instr.sureAddr, Sem.run_pure, Result.andThen_ok, hv]

/-- What stands in a row of values behind a store. -/
theorem store_rep {off : Nat} {cells vs : List PV} {us : List Value} {u : Value} (h2 : cells.length ≤ us.length) (h3 : ∀ (i : Nat) (c : PV) (u : Value), cells[i]? = some c → us[i]? = some u → RepP F φ h c u ∧ u.oneCell' = true)
    (e1 : u.cells.toList.length = vs.length) (e2 : ∀ (i : Nat) (c : PV) (v : Value), vs[i]? = some c → u.cells.toList[i]? = some v → RepP F φ h c v ∧ v.oneCell' = true) (hle : off + vs.length ≤ cells.length) :
    (us.take off ++ u.cells.toList ++ us.drop (off + vs.length)).length = us.length ∧ ∀ (i : Nat) (c : PV) (v : Value), (cells.take off ++ vs ++ cells.drop (off + vs.length))[i]? = some c → (us.take off ++ u.cells.toList ++ us.drop (off + vs.length))[i]? = some v → RepP F φ h c v ∧ v.oneCell' = true := by
  refine ⟨by simp only [List.length_append, List.length_take, List.length_drop, e1]; omega, fun i c v hc hv => ?_⟩
  by_cases ha : i < off
  · have hc' : cells[i]? = some c := by
      rw [List.append_assoc, List.getElem?_append_left (by simp; omega), List.getElem?_take, if_pos ha] at hc; exact hc
    have hv' : us[i]? = some v := by
      rw [List.append_assoc, List.getElem?_append_left (by simp; omega), List.getElem?_take, if_pos ha] at hv; exact hv
    exact h3 i c v hc' hv'
  · by_cases hb : i < off + vs.length
    · have hc' : vs[i - off]? = some c := by
        rw [List.append_assoc, List.getElem?_append_right (by simp; omega), List.getElem?_append_left (by simp; omega)] at hc
        rwa [List.length_take, Nat.min_eq_left (by omega)] at hc
      have hv' : u.cells.toList[i - off]? = some v := by
        rw [List.append_assoc, List.getElem?_append_right (by simp; omega), List.getElem?_append_left (by rw [e1]; simp; omega)] at hv
        rwa [List.length_take, Nat.min_eq_left (by omega)] at hv
      exact e2 _ c v hc' hv'
    · have hc' : cells[i]? = some c := by
        rw [List.getElem?_append_right (by simp; omega), List.getElem?_drop] at hc
        rw [← hc]; congr 1; simp; omega
      have hv' : us[i]? = some v := by
        rw [List.getElem?_append_right (by simp only [List.length_append, List.length_take, e1]; omega), List.getElem?_drop] at hv
        rw [← hv]; congr 1; simp only [List.length_append, List.length_take, e1]; omega
      exact h3 i c v hc' hv'

theorem run_storeAt {t : TypeId} {b off : Nat} {cells c' : List PV} {us : List Value} {ty : TypeId} {p : PV} {u : Value} (h1 : w.heap[b]? = some (.cells us.toArray ty (0, 0))) (h2 : cells.length ≤ us.length)
    (h3 : ∀ (i : Nat) (c : PV) (u : Value), cells[i]? = some c → us[i]? = some u → RepP F φ h c u ∧ u.oneCell' = true) (hp : storeB P t cells off p = some c') (hr : RepP F φ h p u) :
    ∃ vs : List Value, ((do Instr.storeAt t (.pointer (some ⟨b, off, none⟩)) u; pure .skip : Sem Next)).run P w = .ok .skip (w.setRow b vs.toArray) ∧ vs.length = us.length ∧ c'.length = cells.length ∧
      ∀ (i : Nat) (c : PV) (v : Value), c'[i]? = some c → vs[i]? = some v → RepP F φ h c v ∧ v.oneCell' = true := by
  unfold storeB at hp
  cases hpc : pcells p with
  | none => rw [hpc] at hp; cases hp
  | some vs =>
    rw [hpc] at hp
    simp only at hp
    split at hp
    · rename_i hcond
      obtain ⟨hsz, hle⟩ := hcond
      cases hp
      obtain ⟨e1, e2⟩ := pcells_rep hpc hr
      have e1' : u.cells.size = vs.length := by simpa using e1
      have hst := run_storeCells_at (P := P) b off ty u.cells.toList 0 us.toArray w h1 (by simp; omega) (fun v hv => by
        obtain ⟨i, hi, rfl⟩ := List.getElem_of_mem hv
        have hlt : i < vs.length := by rw [← e1]; exact hi
        exact (e2 i vs[i] _ (List.getElem?_eq_getElem hlt) (List.getElem?_eq_getElem hi)).2)
      obtain ⟨q1, q2⟩ := store_rep h2 h3 e1 e2 hle
      refine ⟨us.take off ++ u.cells.toList ++ us.drop (off + vs.length), ?_, q1, by simp only [List.length_append, List.length_take, List.length_drop]; omega, q2⟩
      simp only [Instr.storeAt, Instr.sureAddr, storeVar, Sem.run_bind, Sem.run_pure, Result.andThen_ok, run_sizeOf' hsz, e1', ne_eq, not_true_eq_false, if_false]
      rw [hst]
      simp [e1']
    · cases hp

theorem sim_store (H : RH P C F φ h w) {t : TypeId} {id off : Nat} {cells c' : List PV} {p : PV} {u : Value} (hid : h id = .box cells) (hp : storeB P t cells off p = some c') (hr : RepP F φ h p u) :
    Sim P C h (((do Instr.storeAt t (.pointer (some ⟨(φ id).1, off, none⟩)) u; pure .skip : Sem Next)).run P w) (.t (.tup [])) [(id, .box c')] := by
  have hob := H.objs id
  rw [hid] at hob
  obtain ⟨us, ty, h1, h2, h3, h4⟩ := hob
  obtain ⟨vs, q1, q2, q3, q4⟩ := run_storeAt (P := P) h1 (by omega) h3 hp hr
  exact ⟨F, φ, undef, _, .inr ⟨q1, rfl⟩, H.setBox hid vs (by omega) q4, .tup [] [] rfl (by simp)⟩
theorem sim_store_gptr (H : RH P C F φ h w) {t : TypeId} {id ver off e sz : Nat} {cells c' : List PV} {p : PV} {u ua : Value} (hid : h id = .grow ver cells e sz) (hu : RepP F φ h (.gptr id ver off) ua) (hp : storeB P t cells off p = some c') (hr : RepP F φ h p u) :
    Sim P C h (((do Instr.storeAt t ua u; pure .skip : Sem Next)).run P w) (.t (.tup [])) [(id, .grow ver c' e sz)] := by
  have hob := H.objs id
  rw [hid] at hob
  obtain ⟨us, h1, h2, h3, h4, h5, h6⟩ := hob
  obtain ⟨v, e', sz', a, g1, g2, rfl, g4⟩ := hu
  rw [hid] at g1; cases g1
  have := g4 rfl; subst this
  obtain ⟨vs, q1, q2, q3, q4⟩ := run_storeAt (P := P) h1 h3 h5 hp hr
  exact ⟨F, φ, undef, _, .inr ⟨q1, rfl⟩, H.setGrow hid vs (by omega) (by omega) q4, .tup [] [] rfl (by simp)⟩

end Go.Pm
