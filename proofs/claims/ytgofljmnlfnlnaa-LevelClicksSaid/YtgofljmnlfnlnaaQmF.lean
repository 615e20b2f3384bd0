/- The pure machine, part F: fields, elements, slices, what is built. -/
import Derived.Test.YtgofljmnlfnlnaaQmE
namespace Go.Pm
open Go Go.RowKit

variable {P : Program} {C : Cx} {F F' : Fz} {φ φ' : Nat → Nat × Nat} {h h' : Hp} {w w' : World}

theorem sim_unOp (H : RH P C F φ h w) {op : UnOp} {a c : TV} {u : Value} (hc : unT op a = some c) (ru : RepT F a u) :
    Sim P C h (((do pure (Next.value (← Op.unary op u))) : Sem Next).run P w) (.t c) [] := by
  unfold unT at hc
  split at hc
  · cases ru; simp at hc; subst hc
    exact Sim.quiet H (by simp [Op.unary, Op.intArith]) (RepT.int _ _)
  · cases ru; simp at hc; subst hc
    exact Sim.quiet H (by simp [Op.unary]) (RepT.bool _)
  · cases hc

theorem sim_convert (H : RH P C F φ h w) {src dst : TypeId} {k0 k k' : IntKind} {n : Int} (hd : kindO P dst = some k) (hs : P.underlying src = some (.int k')) :
    Sim P C h (((do pure (Next.value (← convert src dst (.int k0 n)))) : Sem Next).run P w) (.t (.int k (k.wrap n))) [] := by
  unfold kindO at hd
  split at hd
  · rename_i k1 hk; cases hd
    exact Sim.quiet H (by simp [convert, run_underlying' hs, run_underlying' hk, Conv.intToInt]) (RepT.int _ _)
  · cases hd

theorem sim_makeInterface (H : RH P C F φ h w) {t : TypeId} {d : TypeDesc} {x : TV} {u : Value} (hd : P.underlying t = some d) (hn : ∀ ms, d ≠ .interface ms) (ru : RepT F x u) :
    Sim P C h (((do pure (Next.value (← Instr.makeInterface t u))) : Sem Next).run P w) (.t (.ifc t x)) [] := by
  refine Sim.quiet H (u := .iface t u) ?_ (RepT.ifc t x u ru)
  have : P.concrete t = true := by
    unfold Program.concrete; rw [hd]; cases d <;> first | rfl | exact absurd rfl (hn _)
  simp [run_makeInterface w t u this]

theorem fieldO_some {s f o : Nat} {ft : TypeId} (hf : fieldO P s f = some (o, ft)) : ∃ fs fld, P.underlying s = some (.struct fs) ∧ fs[f]? = some fld ∧ fld.offset = o ∧ fld.type = ft := by
  unfold fieldO at hf
  split at hf
  · rename_i fs hs
    simp only [Option.map_eq_some_iff] at hf
    obtain ⟨fld, h1, h2⟩ := hf
    simp at h2
    exact ⟨fs, fld, hs, h1, h2.1, h2.2⟩
  · cases hf

theorem run_fieldAt {s f o : Nat} {ft : TypeId} {a : Addr} (hf : fieldO P s f = some (o, ft)) (hn : ¬ (szO P ft).getD 0 = 0) :
    (Instr.fieldAt s (.pointer (some a)) f).run P w = .ok (.pointer (some (a.add o))) w := by
  obtain ⟨fs, fld, h1, h2, rfl, rfl⟩ := fieldO_some hf
  cases hs : szO P fld.type with
  | none => rw [hs] at hn; simp at hn
  | some n =>
    rw [hs] at hn; simp at hn
    simp [Instr.fieldAt, run_underlying' h1, h2, Instr.sureAddr, fieldPlace, run_sizeOf' hs, hn]

theorem RepT.cptr_drop {cs : List TV} {a : Addr} (k : Nat) (hr : RepT F (.cptr cs) (.pointer (some a))) : RepT F (.cptr (cs.drop k)) (.pointer (some (a.add k))) := by
  cases hr with
  | cptr _ _ us hl hF hr =>
    refine .cptr _ _ (us.drop k) (by simp [hl]) (fun i u hu => ?_) (RepL.drop ⟨hl, hr⟩ k).2
    rw [List.getElem?_drop] at hu
    rw [add_add]; exact hF _ _ hu

theorem sim_fieldAddr_ptr (H : RH P C F φ h w) {s f o id off : Nat} {ft : TypeId} (hf : fieldO P s f = some (o, ft)) (hn : ¬ (szO P ft).getD 0 = 0) (hb : isBox h id) :
    Sim P C h (((do pure (Next.value (← Instr.fieldAt s (.pointer (some ⟨(φ id).1, off, none⟩)) f))) : Sem Next).run P w) (.ptr id (off + o)) [] := by
  refine Sim.quiet H (u := .pointer (some ⟨(φ id).1, off + o, none⟩)) ?_ ⟨hb, rfl⟩
  simp [run_fieldAt hf hn, add_plain]
theorem addr_add_spot {a : Addr} {b o n : Nat} (h : a = ⟨b, o, none⟩) : a.add n = ⟨b, o + n, none⟩ := by rw [h, add_plain]
theorem gptr_add {id ver off k : Nat} {u : Value} (hb : RepP F φ h (.gptr id ver off) u) : ∃ a, u = .pointer (some a) ∧ RepP F φ h (.gptr id ver (off + k)) (.pointer (some (a.add k))) := by
  obtain ⟨v, e, sz, a, g1, g2, rfl, g4⟩ := hb
  exact ⟨a, rfl, v, e, sz, _, g1, g2, rfl, fun e => addr_add_spot (g4 e)⟩
theorem sim_fieldAddr_gptr (H : RH P C F φ h w) {s f o id ver off : Nat} {ft : TypeId} {u : Value} (hf : fieldO P s f = some (o, ft)) (hn : ¬ (szO P ft).getD 0 = 0) (hb : RepP F φ h (.gptr id ver off) u) :
    Sim P C h (((do pure (Next.value (← Instr.fieldAt s u f))) : Sem Next).run P w) (.gptr id ver (off + o)) [] := by
  obtain ⟨a, rfl, h1⟩ := gptr_add (k := o) hb
  exact Sim.quiet H (by simp [run_fieldAt hf hn]) h1
theorem sim_fieldAddr_cptr (H : RH P C F φ h w) {s f o : Nat} {ft : TypeId} {cs : List TV} {u : Value} (hf : fieldO P s f = some (o, ft)) (hn : ¬ (szO P ft).getD 0 = 0) (hr : RepT F (.cptr cs) u) :
    Sim P C h (((do pure (Next.value (← Instr.fieldAt s u f))) : Sem Next).run P w) (.t (.cptr (cs.drop o))) [] := by
  have hr' := hr
  cases hr' with
  | cptr _ a us hl hF hrr =>
    refine Sim.quiet H (u := .pointer (some (a.add o))) ?_ (RepT.cptr_drop o hr)
    simp [run_fieldAt hf hn]

theorem sim_field (H : RH P C F φ h w) {s f o : Nat} {ft : TypeId} {cs : List TV} {u : Value} {x : TV} (hf : fieldO P s f = some (o, ft)) (hx : partT P ft cs o = some x) (hr : RepT F (.agg cs) u) :
    Sim P C h (((do pure (Next.value (← Instr.field s u f))) : Sem Next).run P w) (.t x) [] := by
  obtain ⟨fs, fld, h1, h2, rfl, rfl⟩ := fieldO_some hf
  cases hr with
  | agg _ us hl ho hrr =>
    obtain ⟨v, hv, rv⟩ := part_rep (P := P) (w := w) hx ⟨hl, hrr⟩ ho
    refine Sim.quiet H (u := v) ?_ rv
    simp [Instr.field, run_underlying' h1, h2, asAgg, hv]

theorem sim_field_cons (H : RH P C F φ h w) {s f o : Nat} {ft : TypeId} {p : PV} {cs : List PV} {u : Value} {x : PV} (hf : fieldO P s f = some (o, ft)) (hp : pcells p = some cs) (hx : loadB P ft cs o = some x) (hr : RepP F φ h p u) (hu : ∃ us, u = .agg us) :
    Sim P C h (((do pure (Next.value (← Instr.field s u f))) : Sem Next).run P w) x [] := by
  obtain ⟨fs, fld, h1, h2, rfl, rfl⟩ := fieldO_some hf
  obtain ⟨us, rfl⟩ := hu
  obtain ⟨e1, e2⟩ := pcells_rep hp hr
  simp only [Value.cells] at e1 e2
  have key : ∃ v, (part fld.type us fld.offset).run P w = .ok v w ∧ RepP F φ h x v := by
    unfold loadB at hx
    split at hx
    · rename_i ha
      split at hx
      · rename_i n hn
        split at hx
        · rename_i hle
          cases hx
          refine ⟨.agg (us.extract fld.offset (fld.offset + n)), ?_, ?_⟩
          · simp [part, run_isAgg' ha, run_sizeOf' hn]
          · have := aggP_rep (F := F) (φ := φ) (h := h) (b := false) (ps := (cs.drop fld.offset).take n) (us := (us.toList.drop fld.offset).take n) (by simp only [List.length_take, List.length_drop, e1]) (fun i c u hc hu => by
              rw [List.getElem?_take] at hc hu
              split at hc
              · rename_i hi
                rw [if_pos hi] at hu
                rw [List.getElem?_drop] at hc hu
                exact ⟨(e2 _ c u hc hu).1, fun _ => (e2 _ c u hc hu).2⟩
              · cases hc)
            have e : (us.extract fld.offset (fld.offset + n)) = ((us.toList.drop fld.offset).take n).toArray := by
              apply Array.ext'; simp [List.take_drop]
            rw [e]; exact this
        · cases hx
      · cases hx
    · rename_i ha
      have hlt : fld.offset < us.toList.length := by rw [e1]; exact (List.getElem?_eq_some_iff.1 hx).1
      refine ⟨us.toList[fld.offset], ?_, (e2 _ x _ hx (List.getElem?_eq_getElem hlt)).1⟩
      have : us[fld.offset]? = some us.toList[fld.offset] := by rw [← Array.getElem?_toList, List.getElem?_eq_getElem hlt]
      simp only [part, Sem.run_bind, run_isAgg' ha, Result.andThen_ok, Bool.false_eq_true, if_false, this, Sem.run_pure]
    · cases hx
  obtain ⟨v, hv, rv⟩ := key
  refine Sim.quiet H (u := v) ?_ rv
  simp [Instr.field, run_underlying' h1, h2, asAgg, hv]

theorem arrayO_some {t n : Nat} {e : TypeId} (ha : arrayO P t = some (n, e)) : P.underlying t = some (.array n e) := by
  unfold arrayO at ha
  split at ha
  · rename_i h1; simp at ha; rw [h1, ha.1, ha.2]
  · cases ha
theorem sliceO_some {t : Nat} {e : TypeId} (ha : sliceO P t = some e) : P.underlying t = some (.slice e) := by
  unfold sliceO at ha
  split at ha
  · rename_i h1; simp at ha; rw [h1, ha]
  · cases ha

theorem run_indexAt_array {t n sz : Nat} {e : TypeId} {k : IntKind} {i : Int} {a : Addr} (ha : arrayO P t = some (n, e)) (hs : szO P e = some sz) (hi : 0 ≤ i ∧ i < n) :
    (Instr.indexAt t (.pointer (some a)) (.int k i)).run P w = .ok (.pointer (some (a.add (i.toNat * sz)))) w := by
  simp [Instr.indexAt, asIntOf, run_underlying' (arrayO_some ha), Instr.sureAddr, hi, run_sizeOf' hs]
theorem run_indexAt_slice {t n sz c : Nat} {e : TypeId} {k : IntKind} {i : Int} {a : Addr} (ha : sliceO P t = some e) (hs : szO P e = some sz) (hi : 0 ≤ i ∧ i < n) :
    (Instr.indexAt t (.slice (some a) n c) (.int k i)).run P w = .ok (.pointer (some (a.add (i.toNat * sz)))) w := by
  simp [Instr.indexAt, asIntOf, run_underlying' (sliceO_some ha), hi, run_sizeOf' hs]

theorem RepT.sl_drop {cs : List TV} {n : Nat} {f : Bool} {u : Value} (k : Nat) (hr : RepT F (.sl cs n f) u) : ∃ a cap, u = .slice (some a) n cap ∧ RepT F (.cptr (cs.drop k)) (.pointer (some (a.add k))) := by
  cases hr with
  | sl _ _ _ a cap us hl hF hr _ _ _ => exact ⟨a, cap, rfl, RepT.cptr_drop k (.cptr cs a us hl hF hr)⟩

theorem sim_indexAddr (H : RH P C F φ h w) {t : TypeId} {k : IntKind} {i : Int} {x v : PV} {u : Value} (hv : indexO P t x i = some v) (hr : RepP F φ h x u) :
    Sim P C h (((do pure (Next.value (← Instr.indexAt t u (.int k i)))) : Sem Next).run P w) v [] := by
  have slice_case : ∀ (cs : List TV) (n : Nat) (f : Bool) (e : TypeId), RepT F (.sl cs n f) u → sliceO P t = some e →
      (match szO P e with | some sz => if 0 ≤ i ∧ i < n then some (PV.t (.cptr (cs.drop (i.toNat * sz)))) else none | none => none) = some v →
      Sim P C h (((do pure (Next.value (← Instr.indexAt t u (.int k i)))) : Sem Next).run P w) v [] := by
    intro cs n f e hr hs hv
    split at hv
    · rename_i sz hsz
      split at hv
      · rename_i hi
        cases hv
        obtain ⟨a, cap, rfl, hp⟩ := hr.sl_drop (i.toNat * sz)
        exact Sim.quiet H (by simp [run_indexAt_slice hs hsz hi]) hp
      · cases hv
    · cases hv
  unfold indexO at hv
  split at hv
  · rename_i id off
    obtain ⟨hb, rfl⟩ := hr
    split at hv
    · rename_i n e ha
      split at hv
      · rename_i sz hs
        split at hv
        · rename_i hi; cases hv
          exact Sim.quiet H (u := .pointer (some ⟨(φ id).1, off + i.toNat * sz, none⟩)) (by simp [run_indexAt_array ha hs hi, add_plain]) ⟨hb, rfl⟩
        · cases hv
      · cases hv
    · cases hv
  · rename_i cs
    split at hv
    · rename_i n e ha
      split at hv
      · rename_i sz hs
        split at hv
        · rename_i hi; cases hv
          have hr' : RepT F (.cptr cs) u := hr
          have hr2 := hr'
          cases hr2 with
          | cptr _ a us hl hF hrr =>
            exact Sim.quiet H (u := .pointer (some (a.add (i.toNat * sz)))) (by simp [run_indexAt_array ha hs hi]) (RepT.cptr_drop _ hr')
        · cases hv
      · cases hv
    · cases hv
  · rename_i id ver off
    split at hv
    · rename_i n e ha
      split at hv
      · rename_i sz hs
        split at hv
        · rename_i hi; cases hv
          obtain ⟨a, rfl, h1⟩ := gptr_add (k := i.toNat * sz) hr
          exact Sim.quiet H (by simp [run_indexAt_array ha hs hi]) h1
        · cases hv
      · cases hv
    · cases hv
  · rename_i id ver sz o n full
    split at hv
    · rename_i e hs
      split at hv
      · rename_i hc
        cases hv
        obtain ⟨hsz, hi⟩ := hc
        obtain ⟨v, e', cap, a, g1, g2, rfl, g4, g5, g6, g7⟩ := hr
        refine Sim.quiet H (u := .pointer (some (a.add (i.toNat * sz)))) (by simp [run_indexAt_slice hs hsz hi]) ⟨v, e', sz, _, g1, g2, rfl, fun e => ?_⟩
        rw [addr_add_spot ((g7 e).2.1 (by omega)), Nat.add_mul]
      · cases hv
    · cases hv
  · rename_i cs n id
    split at hv
    · rename_i e hs
      rcases Nat.eq_zero_or_pos n with h0 | h0
      · subst h0
        split at hv
        · split at hv
          · omega
          · cases hv
        · cases hv
      · exact slice_case cs n false e (hr.2.1 h0) hs hv
    · cases hv
  · split at hv
    · rename_i cs n f e ht hs
      exact slice_case cs n f e (PV.toT_rep ht hr) hs hv
    · cases hv

theorem sim_index_agg (H : RH P C F φ h w) {t n sz : Nat} {e : TypeId} {k : IntKind} {i : Int} {cs : List TV} {x : TV} {u : Value} (ha : arrayO P t = some (n, e)) (hs : szO P e = some sz) (hi : 0 ≤ i ∧ i < n)
    (hx : partT P e cs (i.toNat * sz) = some x) (hr : RepT F (.agg cs) u) : Sim P C h (((do pure (Next.value (← Instr.index t u (.int k i)))) : Sem Next).run P w) (.t x) [] := by
  cases hr with
  | agg _ us hl ho hrr =>
    obtain ⟨v, hv, rv⟩ := part_rep (P := P) (w := w) hx ⟨hl, hrr⟩ ho
    refine Sim.quiet H (u := v) ?_ rv
    simp [Instr.index, asIntOf, run_underlying' (arrayO_some ha), hi, run_sizeOf' hs, hv]
theorem sim_index_str (H : RH P C F φ h w) {t : Nat} {k : IntKind} {i : Int} {s : ByteArray} (ht : P.underlying t = some .string) (hi : 0 ≤ i ∧ i < s.size) :
    Sim P C h (((do pure (Next.value (← Instr.index t (.string s) (.int k i)))) : Sem Next).run P w) (.t (.int .u8 (s.data.getD i.toNat 0).toNat)) [] := by
  refine Sim.quiet H (u := .int .u8 (s.data.getD i.toNat 0).toNat) ?_ (RepT.int _ _)
  have hlt : i.toNat < s.size := by omega
  have e : s[i.toNat]? = some (s.data.getD i.toNat 0) := by
    rw [getElem?_pos s i.toNat hlt]
    have hlt' : i.toNat < s.data.size := hlt
    simp only [Array.getD, hlt', dif_pos]
    rfl
  simp [Instr.index, asIntOf, run_underlying' ht, hi.1, e]

/-- Bounds. -/
theorem boundO_some {x : Option PV} {d top b : Nat} (hb : boundO x d top = some b) : (x = none ∧ b = d) ∨ ∃ k i, x = some (.t (.int k i)) ∧ 0 ≤ i ∧ i ≤ top ∧ b = i.toNat := by
  unfold boundO at hb
  split at hb
  · cases hb; exact .inl ⟨rfl, rfl⟩
  · rename_i k i
    split at hb
    · rename_i h1; cases hb; exact .inr ⟨k, i, rfl, h1.1, h1.2, rfl⟩
    · cases hb
  · cases hb
/-- The values of bounds. -/
def RepOp (F : Fz) (φ : Nat → Nat × Nat) (h : Hp) (x : Option PV) (u : Option Value) : Prop :=
  match x, u with
  | none, none => True
  | some p, some v => RepP F φ h p v
  | _, _ => False
theorem boundO_val {x : Option PV} {u : Option Value} {d top b : Nat} (hb : boundO x d top = some b) (hr : RepOp F φ h x u) :
    (x = none ∧ u = none ∧ b = d) ∨ ∃ k i, x.isSome = true ∧ u = some (.int k i) ∧ 0 ≤ i ∧ i ≤ top ∧ b = i.toNat := by
  rcases boundO_some hb with ⟨rfl, rfl⟩ | ⟨k, i, rfl, h1, h2, h3⟩
  · cases u with
    | none => exact .inl ⟨rfl, rfl, rfl⟩
    | some v => cases hr
  · cases u with
    | none => cases hr
    | some v => cases hr; exact .inr ⟨k, i, rfl, rfl, h1, h2, h3⟩
theorem run_sliceBound {k : IntKind} {i : Int} {y : Nat} {c : BoundsCode} (h0 : 0 ≤ i) (h1 : i ≤ y) : (Instr.sliceBound (.int k i) y c).run P w = .ok i.toNat w := by
  simp [Instr.sliceBound, asIntOf, h0, h1]

/-- The three bounds of a slice expression. m: the greatest index. -/
theorem run_bounds {s : Bool} {len cap a b c : Nat} {lo hi mx : Option PV} {ul uh um : Option Value} (hl : RepOp F φ h lo ul) (hh : RepOp F φ h hi uh) (hm : RepOp F φ h mx um)
    (hb : boundO hi len len = some b) (hc : boundO mx len len = some c) (ha : boundO lo 0 b = some a) (hcap : len ≤ cap) (hmx : mx.isSome = true → c = b ∧ hi.isSome = true) :
    (Instr.sliceBounds s len cap ul uh um).run P w = .ok (a, b, if mx.isSome then c else cap) w := by
  rcases boundO_val hc hm with ⟨rfl, rfl, rfl⟩ | ⟨k3, i3, hs, rfl, m1, m2, rfl⟩
  · rcases boundO_val hb hh with ⟨rfl, rfl, rfl⟩ | ⟨k2, i2, hs2, rfl, n1, n2, rfl⟩
    · rcases boundO_val ha hl with ⟨rfl, rfl, rfl⟩ | ⟨k1, i1, hs1, rfl, p1, p2, rfl⟩
      · simp [Instr.sliceBounds]
      · simp [Instr.sliceBounds, run_sliceBound p1 p2]
    · have n3 : i2 ≤ (cap : Int) := by omega
      rcases boundO_val ha hl with ⟨rfl, rfl, rfl⟩ | ⟨k1, i1, hs1, rfl, p1, p2, rfl⟩
      · simp [Instr.sliceBounds, run_sliceBound n1 n3]
      · simp [Instr.sliceBounds, run_sliceBound n1 n3, run_sliceBound p1 p2]
  · obtain ⟨hcb, hhs⟩ := hmx hs
    have m3 : i3 ≤ (cap : Int) := by omega
    rcases boundO_val hb hh with ⟨rfl, rfl, rfl⟩ | ⟨k2, i2, hs2, rfl, n1, n2, rfl⟩
    · cases hhs
    · have n3 : i2 ≤ (i3.toNat : Int) := by omega
      rcases boundO_val ha hl with ⟨rfl, rfl, rfl⟩ | ⟨k1, i1, hs1, rfl, p1, p2, rfl⟩
      · simp [Instr.sliceBounds, run_sliceBound m1 m3, run_sliceBound n1 n3, hs]
      · simp [Instr.sliceBounds, run_sliceBound m1 m3, run_sliceBound n1 n3, run_sliceBound p1 p2, hs]

theorem boundO_le {x : Option PV} {d top b : Nat} (hd : d ≤ top) (hb : boundO x d top = some b) : b ≤ top := by
  rcases boundO_some hb with ⟨_, rfl⟩ | ⟨k, i, _, h1, h2, rfl⟩
  · exact hd
  · omega

theorem sim_slice (H : RH P C F φ h w) {t : TypeId} {x v : TV} {u : Value} {lo hi mx : Option PV} {ul uh um : Option Value} (hl : RepOp F φ h lo ul) (hh : RepOp F φ h hi uh) (hm : RepOp F φ h mx um)
    (hv : sliceX P t x lo hi mx = some v) (hr : RepT F x u) : Sim P C h (((do pure (Next.value (← Instr.sliceAt t u ul uh um))) : Sem Next).run P w) (.t v) [] := by
  unfold sliceX at hv
  split at hv
  · rename_i e cs n f ht
    split at hv
    · rename_i sz b c hsz hb hc
      split at hv
      · rename_i a ha
        split at hv
        · cases hv
        · rename_i hcond
          split at hv
          · rename_i hlen
            cases hv
            have hmx : mx.isSome = true → c = b ∧ hi.isSome = true := fun hs => by
              refine ⟨?_, ?_⟩
              · rcases Nat.decEq c b with hne | he
                · exact absurd ⟨hs, .inl hne⟩ hcond
                · exact he
              · cases hhi : hi with
                | none => exact absurd ⟨hs, .inr (by simp [hhi])⟩ hcond
                | some _ => rfl
            cases hr with
            | sl _ _ _ ad cap us hul hF hrr h1 h2 h3 =>
              have hbn : b ≤ n := boundO_le (Nat.le_refl _) hb
              have hab : a ≤ b := boundO_le (Nat.zero_le _) ha
              have hrun := run_bounds (P := P) (w := w) (s := true) hl hh hm hb hc ha h1 hmx
              have hmc : b ≤ (if mx.isSome = true then c else cap) := by
                split
                · rename_i hs; rw [(hmx hs).1]; exact Nat.le_refl _
                · omega
              have hmcap : (if mx.isSome = true then c else cap) ≤ cap := by
                split
                · rename_i hs; rw [(hmx hs).1]; omega
                · omega
              generalize hM : (if mx.isSome = true then c else cap) = M at hrun hmc hmcap
              have hR : RepL F ((cs.take (b * sz)).drop (a * sz)) ((us.take (b * sz)).drop (a * sz)) := (RepL.take ⟨hul, hrr⟩ _).drop _
              refine Sim.quiet H (u := .slice (some (if M = a then ad else ad.add (a * sz))) (b - a) (M - a)) ?_ ?_
              · simp only [Sem.run_bind, Instr.sliceAt, run_underlying' ht, Result.andThen_ok, Instr.slice, hrun, run_sizeOf' hsz, Sem.run_pure]
                split <;> rfl
              · refine .sl _ _ _ _ _ ((us.take (b * sz)).drop (a * sz)) hR.1 (fun i z hz => ?_) hR.2 (by omega) (fun hs => ?_) (by omega)
                · rw [List.getElem?_drop, List.getElem?_take] at hz
                  split at hz
                  · rename_i hlt
                    have hne : ¬ M = a := by
                      intro e
                      have : b * sz ≤ a * sz := Nat.mul_le_mul_right _ (by omega)
                      omega
                    rw [if_neg hne, add_add]
                    exact hF _ _ hz
                  · cases hz
                · rw [← hM, if_pos hs, (hmx hs).1]
          · cases hv
      · cases hv
    · cases hv
  · rename_i e ht
    split at hv
    · rename_i b a c sz hb ha hc hsz
      split at hv
      · cases hv
      · rename_i hcond
        cases hv
        cases hr with
        | nilSl =>
          have hb0 : b = 0 := Nat.le_zero.1 (boundO_le (Nat.le_refl _) hb)
          have hc0 : c = 0 := Nat.le_zero.1 (boundO_le (Nat.le_refl _) hc)
          subst hb0; subst hc0
          have ha0 : a = 0 := Nat.le_zero.1 (boundO_le (Nat.le_refl _) ha)
          subst ha0
          have hmx : mx.isSome = true → 0 = 0 ∧ hi.isSome = true := fun hs => ⟨rfl, by
            cases hhi : hi with
            | none => exact absurd ⟨hs, by simp [hhi]⟩ hcond
            | some _ => rfl⟩
          have hrun := run_bounds (P := P) (w := w) (s := true) (cap := 0) hl hh hm hb hc ha (Nat.le_refl _) hmx
          refine Sim.quiet H (u := .slice none 0 0) ?_ .nilSl
          simp only [Sem.run_bind, Instr.sliceAt, run_underlying' ht, Result.andThen_ok, Instr.slice, hrun, run_sizeOf' hsz, Sem.run_pure]
          simp
    · cases hv
  · rename_i s ht
    split at hv
    · cases hv
    · rename_i hmx
      split at hv
      · rename_i b hb
        simp only [Option.map_eq_some_iff] at hv
        obtain ⟨a, ha, rfl⟩ := hv
        cases hr with
        | str =>
          have hmn : mx = none := by cases mx <;> simp at hmx ⊢
          subst hmn
          have hum : um = none := by cases um with | none => rfl | some _ => cases hm
          subst hum
          have hrun := run_bounds (P := P) (w := w) (s := false) (cap := s.size) (mx := none) (c := s.size) hl hh hm hb rfl ha (Nat.le_refl _) (by simp)
          refine Sim.quiet H (u := .string (s.extract a b)) ?_ (.str _)
          simp only [Sem.run_bind, Instr.sliceAt, run_underlying' ht, Result.andThen_ok, Instr.slice, Option.isSome_none, Bool.false_eq_true, if_false, hrun, Sem.run_pure]
      · cases hv
  · cases hv

theorem sim_sliceG (H : RH P C F φ h w) {t : TypeId} {id ver sz o n : Nat} {full : Bool} {v : PV} {u : Value} {lo hi mx : Option PV} {ul uh um : Option Value} (hl : RepOp F φ h lo ul) (hh : RepOp F φ h hi uh) (hm : RepOp F φ h mx um)
    (hv : sliceG P t id ver sz o n full lo hi mx = some v) (hr : RepP F φ h (.gsl id ver sz o n full) u) : Sim P C h (((do pure (Next.value (← Instr.sliceAt t u ul uh um))) : Sem Next).run P w) v [] := by
  unfold sliceG at hv
  split at hv
  · rename_i e hs
    split at hv
    · rename_i b c hb hc
      split at hv
      · rename_i a ha
        split at hv
        · rename_i hsz
          obtain ⟨vv, e', cap, ad, g1, g2, rfl, g4, g5, g6, g7⟩ := hr
          have hbn : b ≤ n := boundO_le (Nat.le_refl _) hb
          have hab : a ≤ b := boundO_le (Nat.zero_le _) ha
          have hmx : ∀ (q : PV), (if mx.isSome = true then (if c = b ∧ hi.isSome = true then some (PV.gsl id ver sz (o + a) (b - a) true) else none)
              else if full = true then (if b = n then some (.gsl id ver sz (o + a) (b - a) true) else none) else some (.gsl id ver sz (o + a) (b - a) false)) = some q → mx.isSome = true → c = b ∧ hi.isSome = true := fun q hq hs => by
            rw [if_pos hs] at hq
            split at hq
            · assumption
            · cases hq
          have hrun := run_bounds (P := P) (w := w) (s := true) hl hh hm hb hc ha g4 (hmx v hv)
          generalize hM : (if mx.isSome = true then c else cap) = M at hrun
          have hmc : b ≤ M ∧ M ≤ cap := by
            rw [← hM]
            split
            · rename_i hs; have := hmx v hv hs; omega
            · omega
          have hu : (((do pure (Next.value (← Instr.sliceAt t (.slice (some ad) n cap) ul uh um))) : Sem Next).run P w) = .ok (.value (.slice (some (if M = a then ad else ad.add (a * sz))) (b - a) (M - a))) w := by
            simp only [Sem.run_bind, Instr.sliceAt, run_underlying' (sliceO_some hs), Result.andThen_ok, Instr.slice, hrun, run_sizeOf' hsz, Sem.run_pure]
            split <;> rfl
          have fin : ∀ f : Bool, (f = true → M = b) → (f = false → full = false ∧ M = cap) → Sim P C h (((do pure (Next.value (← Instr.sliceAt t (.slice (some ad) n cap) ul uh um))) : Sem Next).run P w) (.gsl id ver sz (o + a) (b - a) f) [] := by
            intro f hf1 hf2
            refine Sim.quiet H hu ⟨vv, e', M - a, _, g1, g2, rfl, by omega, by omega, fun hf => by rw [hf1 hf], fun ev => ?_⟩
            obtain ⟨k1, k2, k3⟩ := g7 ev
            refine ⟨by omega, fun hpos => ?_, fun hf => ?_⟩
            · rw [if_neg (by omega), addr_add_spot (k2 (by omega)), Nat.add_mul]
            · obtain ⟨q1, q2⟩ := hf2 hf
              have := k3 q1; omega
          split at hv
          · rename_i hs
            split at hv
            · rename_i hcb
              cases hv
              exact fin true (fun _ => by rw [← hM, if_pos hs]; exact hcb.1) (fun e => by cases e)
            · cases hv
          · rename_i hs
            split at hv
            · rename_i hf
              split at hv
              · rename_i hb
                cases hv
                exact fin true (fun _ => by rw [← hM, if_neg hs, g6 hf, hb]) (fun e => by cases e)
              · cases hv
            · rename_i hf
              cases hv
              exact fin false (fun e => by cases e) (fun _ => ⟨by simpa using hf, by rw [← hM, if_neg hs]⟩)
        · cases hv
      · cases hv
    · cases hv
  · cases hv

end Go.Pm
