/- The pure machine, part Y: what reads as data is a tree. -/
import Derived.Test.YtgofljmnlfnlnaaQmX
import Derived.ProofKit
import Derived.SizedLaws
namespace Go.Pm
open Go Go.RowKit Go.ChangeShapes

/-- One after the other. -/
def seqOk {α : Type} (r : α → List TV → Prop) : List α → List TV → Prop
  | [], cs => cs = []
  | x :: l, cs => ∃ a b, cs = a ++ b ∧ r x a ∧ seqOk r l b
/-- The cells of a type's value, as trees: what can be read as data. -/
def cellsOk (P : Program) : Nat → TypeId → List TV → Prop
  | 0, _, _ => False
  | k + 1, t, cs => match P.underlying t with
    | some .bool => ∃ b, cs = [.bool b]
    | some (.int q) => ∃ n, cs = [.int q n] ∧ (Lit.int q n).wf = true
    | some .string => ∃ s : ByteArray, cs = [.str s] ∧ s.size ≤ reachBytes
    | some (.slice e) => cs = [.nilSl] ∨ ∃ (rows : List (List TV)) (full : Bool), cs = [.sl rows.flatten rows.length full] ∧ (∀ r ∈ rows, cellsOk P k e r) ∧ rows.length * P.bytesOf e ≤ reachBytes ∧ rows.length ≤ maxLen
    | some (.struct fs) => seqOk (cellsOk P k) (fs.toList.map (·.type)) cs
    | some (.array n e) => seqOk (cellsOk P k) (List.replicate n e) cs
    | _ => False
/-- Do the fields lie one behind the other? -/
def contig (P : Program) : Nat → List Field → Nat → Bool
  | off, [], n => off == n
  | off, f :: fs, n => f.offset == off && contig P (off + P.cellsOf f.type) fs n
/-- Are only such types met? -/
def treeTy (P : Program) : Nat → TypeId → Bool
  | 0, _ => false
  | k + 1, t => match P.underlying t with
    | some .bool => P.cellsOf t == 1
    | some (.int _) => P.cellsOf t == 1
    | some .string => P.cellsOf t == 1
    | some (.slice e) => treeTy P k e && P.cellsOf t == 1
    | some (.struct fs) => contig P 0 fs.toList (P.cellsOf t) && fs.toList.all fun f => treeTy P k f.type
    | some (.array n e) => treeTy P k e && P.cellsOf t == n * P.cellsOf e
    | _ => false

theorem mapM_cons_some {α β : Type} {f : α → Option β} {x : α} {l : List α} {r : List β} (h : (x :: l).mapM f = some r) : ∃ b bs, f x = some b ∧ l.mapM f = some bs ∧ r = b :: bs := by
  simp only [List.mapM_cons, Option.bind_eq_bind, Option.bind_eq_some_iff, Option.pure_def, Option.some.injEq] at h
  obtain ⟨b, hb, bs, hbs, rfl⟩ := h
  exact ⟨b, bs, hb, hbs, rfl⟩
theorem mapM_nil_some {α β : Type} {f : α → Option β} {r : List β} (h : ([] : List α).mapM f = some r) : r = [] := by
  simp at h; exact h
theorem mapM_get {α β : Type} {f : α → Option β} : ∀ {l : List α} {r : List β}, l.mapM f = some r → r.length = l.length ∧ ∀ (i : Nat) (a : α) (b : β), l[i]? = some a → r[i]? = some b → f a = some b
  | [], r, h => by rw [mapM_nil_some h]; exact ⟨rfl, fun i a b h => by simp at h⟩
  | x :: l, r, h => by
    obtain ⟨b, bs, hb, hbs, rfl⟩ := mapM_cons_some h
    obtain ⟨h1, h2⟩ := mapM_get hbs
    refine ⟨by simp [h1], fun i a c ha hc => ?_⟩
    cases i with
    | zero => simp at ha hc; subst ha; subst hc; exact hb
    | succ i => simp at ha hc; exact h2 i a c ha hc

/-- The world, all of it frozen. -/
def allF (w : World) : Fz := fun a => w.cell? a

section
variable {H : Type} {enc : TypeId × Value → H} {P : Program} {w : World}

/-- What is read at a type is so. -/
def ReadOk (enc : TypeId × Value → H) (P : Program) (w : World) (fuel k : Nat) (t : TypeId) : Prop := ∀ (us : List Value) (x : DataW H × List MemPlace), treeTy P k t = true → us.length = P.cellsOf t →
  DataW.trod enc P w 0 (fun _ => true) true fuel t us = some x → (x.1.weights P t).all (· ≤ reachBytes) = true →
  ∃ cs, RepL (allF w) cs us ∧ (∀ u ∈ us, u.oneCell' = true) ∧ cellsOk P k t cs

theorem seq_rep {fuel k : Nat} (ih : ∀ t, ReadOk enc P w fuel k t) : ∀ (ts : List TypeId) (offs : List Nat) (us : List Value) (off : Nat) (xs : List (DataW H × List MemPlace)),
    offs.length = ts.length → (∀ t ∈ ts, treeTy P k t = true) → (∀ (i : Nat) (o : Nat), offs[i]? = some o → o = off + ((ts.take i).map P.cellsOf).sum) → us.length = off + (ts.map P.cellsOf).sum →
    xs.length = ts.length → (∀ (i : Nat) (t : TypeId) (o : Nat) (x : DataW H × List MemPlace), ts[i]? = some t → offs[i]? = some o → xs[i]? = some x → DataW.trod enc P w 0 (fun _ => true) true fuel t ((us.drop o).take (P.cellsOf t)) = some x) →
    (∀ (i : Nat) (t : TypeId) (x : DataW H × List MemPlace), ts[i]? = some t → xs[i]? = some x → (x.1.weights P t).all (· ≤ reachBytes) = true) →
    ∃ cs, RepL (allF w) cs (us.drop off) ∧ (∀ u ∈ us.drop off, u.oneCell' = true) ∧ seqOk (cellsOk P k) ts cs
  | [], offs, us, off, xs, ho, ht, hoff, hlen, hx, hr, hw => by
    have e : us.drop off = [] := List.drop_eq_nil_of_le (by simp at hlen; omega)
    rw [e]
    exact ⟨[], RepL.nil, (fun u hu => by cases hu), rfl⟩
  | t :: ts, [], us, off, xs, ho, ht, hoff, hlen, hx, hr, hw => by simp at ho
  | t :: ts, o :: offs, us, off, [], ho, ht, hoff, hlen, hx, hr, hw => by simp at hx
  | t :: ts, o :: offs, us, off, x :: xs, ho, ht, hoff, hlen, hx, hr, hw => by
    have e0 : o = off := by have := hoff 0 o rfl; simpa using this
    subst e0
    simp only [List.map_cons, List.sum_cons] at hlen
    obtain ⟨c1, h1, h2, h3⟩ := ih t ((us.drop o).take (P.cellsOf t)) x (ht t List.mem_cons_self) (by rw [List.length_take, List.length_drop]; omega) (hr 0 t o x rfl rfl rfl) (hw 0 t x rfl rfl)
    obtain ⟨c2, g1, g2, g3⟩ := seq_rep ih ts offs us (o + P.cellsOf t) xs (by simpa using ho) (fun t' h => ht t' (List.mem_cons_of_mem _ h))
      (fun i o' h => by have := hoff (i + 1) o' (by simpa using h); simp only [List.take_succ_cons, List.map_cons, List.sum_cons] at this; omega) (by omega) (by simpa using hx)
      (fun i t' o' x' a b c => hr (i + 1) t' o' x' (by simpa using a) (by simpa using b) (by simpa using c)) (fun i t' x' a b => hw (i + 1) t' x' (by simpa using a) (by simpa using b))
    have e : us.drop o = (us.drop o).take (P.cellsOf t) ++ us.drop (o + P.cellsOf t) := by
      rw [← List.drop_drop]; exact (List.take_append_drop _ _).symm
    refine ⟨c1 ++ c2, ?_, ?_, c1, c2, rfl, h3, g3⟩
    · rw [e]; exact RepL.append h1 g1
    · intro u hu
      rw [e] at hu
      rcases List.mem_append.1 hu with hu | hu
      · exact h2 u hu
      · exact g2 u hu

theorem contig_off : ∀ (fs : List Field) (off n : Nat), contig P off fs n = true → (∀ (i : Nat) (o : Nat), (fs.map (·.offset))[i]? = some o → o = off + (((fs.map (·.type)).take i).map P.cellsOf).sum) ∧ n = off + ((fs.map (·.type)).map P.cellsOf).sum
  | [], off, n, h => by
    simp [contig] at h; subst h
    exact ⟨(fun i o h => by simp at h), by simp⟩
  | f :: fs, off, n, h => by
    simp only [contig, Bool.and_eq_true, beq_iff_eq] at h
    obtain ⟨h1, h2⟩ := contig_off fs _ _ h.2
    refine ⟨fun i o ho => ?_, by simp only [List.map_cons, List.sum_cons]; omega⟩
    cases i with
    | zero => simp at ho; simp; omega
    | succ i =>
      have := h1 i o (by simpa using ho)
      simp only [List.map_cons, List.take_succ_cons, List.sum_cons]; omega

theorem weightsAll_mem {e : TypeId} : ∀ {l : List (DataW H)}, (DataW.weightsAll P e l).all (· ≤ reachBytes) = true → ∀ d ∈ l, (d.weights P e).all (· ≤ reachBytes) = true
  | [], _, d, h => by cases h
  | x :: l, h, d, hd => by
    rw [DataW.weightsAll, List.all_append, Bool.and_eq_true] at h
    rcases List.mem_cons.1 hd with rfl | hd
    · exact h.1
    · exact weightsAll_mem h.2 d hd
theorem weightsEach_get : ∀ {ts : List TypeId} {l : List (DataW H)}, (DataW.weightsEach P ts l).all (· ≤ reachBytes) = true → ∀ (i : Nat) (t : TypeId) (d : DataW H), ts[i]? = some t → l[i]? = some d → (d.weights P t).all (· ≤ reachBytes) = true
  | [], _, _, i, t, d, h, _ => by simp at h
  | _ :: _, [], _, i, t, d, _, h => by simp at h
  | t :: ts, x :: l, h, i, t', d, h1, h2 => by
    rw [DataW.weightsEach, List.all_append, Bool.and_eq_true] at h
    cases i with
    | zero => simp at h1 h2; subst h1; subst h2; exact h.1
    | succ i => simp at h1 h2; exact weightsEach_get h.2 i t' d h1 h2

theorem replicate_get {α : Type} {n : Nat} {a b : α} {i : Nat} (h : (List.replicate n a)[i]? = some b) : a = b ∧ i < n := by
  rw [List.getElem?_replicate] at h
  split at h
  · simp at h; exact ⟨h, by assumption⟩
  · cases h
theorem sum_replicate_c (n i : Nat) (e : TypeId) : ((((List.replicate n e).take i).map P.cellsOf).sum) = min i n * P.cellsOf e := by
  rw [List.take_replicate, List.map_replicate, List.sum_replicate_nat]

/-- The rows of a slice. -/
theorem rows_rep {fuel k : Nat} (ih : ∀ t, ReadOk enc P w fuel k t) {e : TypeId} (he : treeTy P k e = true) {a : Addr} : ∀ (m : Nat) (els : List (DataW H × List MemPlace)), els.length = m →
    (∀ (i : Nat) (x : DataW H × List MemPlace), els[i]? = some x → (w.cells? 0 (a.add (i * P.cellsOf e)) (P.cellsOf e)).bind (DataW.trod enc P w 0 (fun _ => true) true fuel e) = some x) →
    (∀ x ∈ els, (x.1.weights P e).all (· ≤ reachBytes) = true) →
    ∃ (rows : List (List TV)) (us : List Value), rows.length = m ∧ us.length = m * P.cellsOf e ∧ RepL (allF w) rows.flatten us ∧ (∀ (i : Nat) (u : Value), us[i]? = some u → allF w (a.add i) = some u ∧ u.oneCell' = true) ∧ ∀ r ∈ rows, cellsOk P k e r
  | 0, els, hl, hx, hw => ⟨[], [], rfl, by simp, RepL.nil, (fun i u h => by simp at h), (fun r h => by cases h)⟩
  | m + 1, els, hl, hx, hw => by
    obtain ⟨rows, us, h1, h2, h3, h4, h5⟩ := rows_rep ih he (a := a) m (els.take m) (by simp; omega) (fun i x h => by
      rw [List.getElem?_take] at h
      split at h
      · exact hx i x h
      · cases h) (fun x h => hw x (List.mem_of_mem_take h))
    have hm : m < els.length := by omega
    have hxm := hx m els[m] (List.getElem?_eq_getElem hm)
    rw [Option.bind_eq_some_iff] at hxm
    obtain ⟨vs, hc, ht⟩ := hxm
    unfold World.cells? at hc
    rw [if_pos (Nat.zero_le _)] at hc
    obtain ⟨l1, l2⟩ := mapM_get hc
    rw [List.length_range] at l1
    obtain ⟨cs, r1, r2, r3⟩ := ih e vs els[m] he l1 ht (hw _ (List.getElem_mem hm))
    refine ⟨rows ++ [cs], us ++ vs, by simp [h1], by rw [List.length_append, h2, l1, Nat.add_mul]; omega, ?_, fun i u hu => ?_, fun r hr => ?_⟩
    · rw [List.flatten_append]; simpa using RepL.append h3 r1
    · by_cases hi : i < us.length
      · rw [List.getElem?_append_left hi] at hu; exact h4 i u hu
      · rw [List.getElem?_append_right (Nat.le_of_not_lt hi)] at hu
        have hj := (List.getElem?_eq_some_iff.1 hu).1
        refine ⟨?_, r2 u (List.mem_of_getElem? hu)⟩
        have := l2 (i - us.length) (i - us.length) u (by rw [List.getElem?_range (by omega)]) hu
        rw [Addr.add_add] at this
        have e2 : m * P.cellsOf e + (i - us.length) = i := by omega
        rw [e2] at this; exact this
    · rcases List.mem_append.1 hr with hr | hr
      · exact h5 r hr
      · simp at hr; subst hr; exact r3

theorem one_of {us : List Value} (h : us.length = 1) : ∃ u, us = [u] := by
  match us, h with
  | [u], _ => exact ⟨u, rfl⟩
theorem trod_rep : ∀ (k fuel : Nat) (t : TypeId), ReadOk enc P w fuel k t
  | 0, _, _ => fun us x h => by cases h
  | k + 1, 0, t => fun us x h hl hr => by simp [DataW.trod] at hr
  | k + 1, fuel + 1, t => fun us x h hl hr hw => by
    have ih := trod_rep k fuel
    unfold treeTy at h
    unfold DataW.trod at hr
    unfold cellsOk
    cases hu : P.underlying t with
    | none => rw [hu] at h; cases h
    | some d =>
      rw [hu] at h hr
      cases d with
      | bool =>
        obtain ⟨u, rfl⟩ := one_of (hl.trans (by simpa using h))
        cases u <;> simp at hr
        rename_i b
        exact ⟨[.bool b], RepL.cons (.bool b) RepL.nil, (fun v hv => by simp at hv; subst hv; rfl), b, rfl⟩
      | int q =>
        obtain ⟨u, rfl⟩ := one_of (hl.trans (by simpa using h))
        cases u <;> simp at hr
        rename_i q' n
        obtain ⟨⟨rfl, hwf⟩, _⟩ := hr
        exact ⟨[.int _ n], RepL.cons (.int _ n) RepL.nil, (fun v hv => by simp at hv; subst hv; rfl), n, rfl, hwf⟩
      | string =>
        obtain ⟨u, rfl⟩ := one_of (hl.trans (by simpa using h))
        cases u <;> simp at hr
        rename_i s
        obtain ⟨hs, rfl⟩ := hr
        refine ⟨[.str s], RepL.cons (.str s) RepL.nil, (fun v hv => by simp at hv; subst hv; rfl), s, rfl, ?_⟩
        simpa [DataW.weights] using hw
      | slice e =>
        simp only [Bool.and_eq_true, beq_iff_eq] at h
        obtain ⟨u, rfl⟩ := one_of (hl.trans h.2)
        cases u with
        | slice ao len cap =>
          cases ao with
          | none =>
            have e0 : len = 0 ∧ cap = 0 := by
              cases len <;> cases cap <;> simp at hr ⊢
            obtain ⟨rfl, rfl⟩ := e0
            exact ⟨[.nilSl], RepL.cons .nilSl RepL.nil, (fun v hv => by simp at hv; subst hv; rfl), .inl rfl⟩
          | some a =>
            simp only [if_true] at hr
            split at hr
            · rename_i hc
              simp only [Option.bind_eq_some_iff, Option.map_eq_some_iff] at hr
              obtain ⟨els, hels, rest, hrest, rfl⟩ := hr
              obtain ⟨l1, l2⟩ := mapM_get hels
              rw [List.length_range] at l1
              rw [DataW.weights, hu] at hw
              simp only [List.all_cons, List.all_append, Bool.and_eq_true, decide_eq_true_eq, List.length_map] at hw
              obtain ⟨w1, w2, w3⟩ := hw
              have w2' := weightsAll_mem w2
              obtain ⟨rows, us, h1, h2, h3, h4, h5⟩ := rows_rep (H := H) (enc := enc) (P := P) (w := w) ih h.1 (a := a) len els l1
                (fun i x hx => l2 i i x (by rw [List.getElem?_range (by have := (List.getElem?_eq_some_iff.1 hx).1; omega)]) hx) (fun x hx => w2' _ (List.mem_map_of_mem hx))
              refine ⟨[.sl rows.flatten rows.length false], RepL.cons ?_ RepL.nil, (fun v hv => by simp at hv; subst hv; rfl), .inr ⟨rows, false, rfl, h5, ?_, by omega⟩⟩
              · rw [h1]
                exact .sl rows.flatten len false a cap us h3.1 (fun i u hu => h4 i u hu) h3.2 hc.2.1 (fun h => by cases h) hc.2.2
              · have : rows.length * P.bytesOf e ≤ (els.length + rest.length) * P.bytesOf e := Nat.mul_le_mul_right _ (by omega)
                omega
            · cases hr
        | _ => simp at hr
      | struct fs =>
        simp only [Bool.and_eq_true, List.all_eq_true] at h
        simp only at hr
        rw [if_pos hl] at hr
        simp only [Option.map_eq_some_iff] at hr
        obtain ⟨xs, hxs, rfl⟩ := hr
        obtain ⟨l1, l2⟩ := mapM_get hxs
        obtain ⟨o1, o2⟩ := contig_off _ _ _ h.1
        rw [DataW.weights, hu] at hw
        have hw' := weightsEach_get hw
        have hd : us = us.drop 0 := rfl
        rw [hd]
        refine seq_rep ih (fs.toList.map (·.type)) (fs.toList.map (·.offset)) us 0 xs (by simp) (fun t' ht => ?_) o1 (by omega) (by simpa using l1) (fun i t' o x' a b c => ?_) (fun i t' x' a b => ?_)
        · obtain ⟨f, hf, rfl⟩ := List.mem_map.1 ht; exact h.2 f hf
        · simp only [List.getElem?_map, Option.map_eq_some_iff] at a b
          obtain ⟨f, hf, rfl⟩ := a
          obtain ⟨f', hf', rfl⟩ := b
          rw [hf] at hf'; cases hf'
          exact l2 i f x' hf c
        · exact hw' i t' x'.1 a (by simp [b])
      | array n e =>
        simp only [Bool.and_eq_true, beq_iff_eq] at h
        simp only at hr
        rw [if_pos hl] at hr
        simp only [Option.map_eq_some_iff] at hr
        obtain ⟨xs, hxs, rfl⟩ := hr
        obtain ⟨l1, l2⟩ := mapM_get hxs
        rw [List.length_range] at l1
        rw [DataW.weights, hu] at hw
        have hw' := weightsAll_mem hw
        have hd : us = us.drop 0 := rfl
        rw [hd]
        refine seq_rep ih (List.replicate n e) ((List.range n).map (· * P.cellsOf e)) us 0 xs (by simp) (fun t' ht => ?_) (fun i o ho => ?_) ?_ (by simpa using l1) (fun i t' o x' a b c => ?_) (fun i t' x' a b => ?_)
        · rw [(List.mem_replicate.1 ht).2]; exact h.1
        · simp only [List.getElem?_map, Option.map_eq_some_iff, range_get] at ho
          obtain ⟨j, hj, rfl⟩ := ho
          split at hj
          · cases hj; rw [sum_replicate_c]; rw [Nat.min_eq_left (by omega)]; omega
          · cases hj
        · rw [hl, h.2, List.map_replicate, List.sum_replicate_nat]; omega
        · obtain ⟨rfl, hi⟩ := replicate_get a
          simp only [List.getElem?_map, Option.map_eq_some_iff, range_get, if_pos hi] at b
          obtain ⟨j, hj, rfl⟩ := b
          cases hj
          exact l2 i i x' (by rw [List.getElem?_range hi]) c
        · obtain ⟨rfl, hi⟩ := replicate_get a
          exact hw' _ (List.mem_map_of_mem (List.mem_of_getElem? b))
      | _ => cases h
end

end Go.Pm
