/- The pure machine, part Yb: a law out of its contract. -/
import Derived.Test.YtgofljmnlfnlnaaQmY
namespace Go.Pm
open Go Go.RowKit Go.ChangeShapes Go.WideShapes Go.ChangeAt

/-- What an argument that reads as data is. -/
def argOk (P : Program) (t : TypeId) (x : TV) : Prop := match P.underlying t with
  | some (.struct _) | some (.array _ _) => ∃ cs, x = .agg cs ∧ cellsOk P 20 t cs
  | _ => cellsOk P 20 t [x]
def argsOk (P : Program) : List TypeId → List TV → Prop
  | [], [] => True
  | t :: ts, x :: xs => argOk P t x ∧ argsOk P ts xs
  | _, _ => False

section
variable {H : Type} {enc : TypeId × Value → H} {P : Program} {w : World}

theorem arg_rep {base : Nat} {t : TypeId} {v : Value} {d : DataW H} {ps : List MemPlace} (ht : treeTy P 20 t = true) (hv : Value.okWide P w .any base t v) (hr : DataW.Trod enc P w 0 (fun _ => true) true t v d ps) (hw : (d.weights P t).all (· ≤ reachBytes) = true) :
    ∃ x, RepT (allF w) x v ∧ argOk P t x := by
  obtain ⟨fuel, hr⟩ := hr
  have key := trod_rep (enc := enc) (P := P) (w := w) 20 fuel t v.cells.toList (d, ps) ht
  unfold argOk
  have flat : v.cells.toList = [v] → P.cellsOf t = 1 → ∃ x, RepT (allF w) x v ∧ cellsOk P 20 t [x] := fun e1 e2 => by
    obtain ⟨cs, h1, h2, h3⟩ := key (by rw [e1, e2]; rfl) hr hw
    rw [e1] at h1
    match cs, h1 with
    | [x], h1 => exact ⟨x, h1.2 0 x v rfl rfl, h3⟩
    | [], h1 => have := h1.1; simp at this
    | _ :: _ :: _, h1 => have := h1.1; simp at this
  have agg : ∀ cs : Array Value, v = .agg cs → cs.size = P.cellsOf t → ∃ x, RepT (allF w) x v ∧ ∃ cs, x = .agg cs ∧ cellsOk P 20 t cs := fun cs e1 e2 => by
    subst e1
    obtain ⟨ts, h1, h2, h3⟩ := key (by simpa [Value.cells] using e2) hr hw
    have e : (Value.agg cs).cells.toList = cs.toList := rfl
    rw [e] at h1 h2
    refine ⟨.agg ts, ?_, ts, rfl, h3⟩
    have := RepT.agg (F := allF w) ts cs.toList h1.1 (fun i u hu => h2 u (List.mem_of_getElem? hu)) h1.2
    simpa using this
  unfold treeTy at ht
  cases hu : P.underlying t with
  | none => rw [hu] at ht; cases ht
  | some dd =>
    rw [hu] at ht
    unfold Value.okWide at hv
    rw [hu] at hv
    cases dd with
    | bool =>
      refine flat ?_ (by simpa using ht)
      unfold Cell.okWide Cell.ok at hv
      rw [hu] at hv
      cases v <;> first | rfl | exact hv.elim
    | int q =>
      refine flat ?_ (by simpa using ht)
      unfold Cell.okWide Cell.ok at hv
      rw [hu] at hv
      cases v <;> first | rfl | exact hv.elim
    | string =>
      refine flat ?_ (by simpa using ht)
      unfold Cell.okWide Cell.ok at hv
      rw [hu] at hv
      cases v <;> first | rfl | exact hv.elim
    | slice e =>
      simp only [Bool.and_eq_true, beq_iff_eq] at ht
      refine flat ?_ ht.2
      unfold Cell.okWide Cell.ok at hv
      rw [hu] at hv
      cases v <;> first | rfl | exact hv.elim
    | struct fs => obtain ⟨cs, h1, h2, _⟩ := hv; exact agg cs h1 h2
    | array n e => obtain ⟨cs, h1, h2, _⟩ := hv; exact agg cs h1 h2
    | _ => cases ht

theorem args_rep {base : Nat} : ∀ {ts : List TypeId} {vs : List Value} {ds : List (DataW H)} {ps : List MemPlace}, (ts.all fun t => treeTy P 20 t) = true → (∀ (j : Nat) t v, ts[j]? = some t → vs[j]? = some v → Value.okWide P w .any base t v) →
    DataW.TrodAll enc P w 0 (fun _ => true) true ts vs ds ps → (DataW.weightsEach P ts ds).all (· ≤ reachBytes) = true → ∃ xs, RepL (allF w) xs vs ∧ argsOk P ts xs ∧ vs.length = ts.length
  | [], vs, ds, ps, _, _, h, _ => by
    obtain ⟨rfl, rfl, rfl⟩ := trodAll_nil h
    exact ⟨[], RepL.nil, trivial, rfl⟩
  | t :: ts, vs, ds, ps, ht, hv, h, hw => by
    obtain ⟨v, vs1, d, ds1, a, b, rfl, rfl, rfl, h1, h2⟩ := trodAll_cons h
    simp only [List.all_cons, Bool.and_eq_true] at ht
    rw [DataW.weightsEach, List.all_append, Bool.and_eq_true] at hw
    obtain ⟨x, r1, r2⟩ := arg_rep ht.1 (hv 0 t v rfl rfl) h1 hw.1
    obtain ⟨xs, g1, g2, g3⟩ := args_rep ht.2 (fun j t' v' a b => hv (j + 1) t' v' (by simpa using a) (by simpa using b)) h2 hw.2
    exact ⟨x :: xs, RepL.cons r1 g1, ⟨r2, g2⟩, by simp [g3]⟩

theorem trodAll_below (hl : laidOutB P = true) {W W' : World} (hb : Below W.heap.size W W') : ∀ {ts : List TypeId} {vs : List Value} {ds : List (DataW H)} {ps : List MemPlace}, (ts.all fun t => P.readableRec t && decide (t < P.types.size)) = true →
    DataW.TrodAll enc P W 0 (fun _ => true) true ts vs ds ps → (∀ x ∈ ps, x.block < W.heap.size) → DataW.TrodAll enc P W' 0 (fun b => decide (b < W.heap.size)) true ts vs ds ps
  | [], vs, ds, ps, _, h, _ => by
    obtain ⟨rfl, rfl, rfl⟩ := trodAll_nil h
    exact rfl
  | t :: ts, vs, ds, ps, ht, h, hlt => by
    obtain ⟨v, vs1, d, ds1, a, b, rfl, rfl, rfl, h1, h2⟩ := trodAll_cons h
    simp only [List.all_cons, Bool.and_eq_true, decide_eq_true_eq] at ht
    exact ⟨a, b, Below.trod hl ht.1.1 ht.1.2 h1 hb fun x hx => hlt x (List.mem_append_left _ hx), trodAll_below hl hb (by simpa using ht.2) h2 fun x hx => hlt x (List.mem_append_right _ hx), rfl⟩

theorem RH_start (w : World) : RH P (loc w (allF w) (fun _ => (0, 0)) noH) (allF w) (fun _ => (0, 0)) noH w :=
  ⟨fun _ _ h => h, Fz.le_refl _, fun a u h1 h2 => (by rw [show (loc w (allF w) (fun _ => (0, 0)) noH).F0 a = allF w a from rfl, h1] at h2; cases h2), fun _ => trivial, fun i j h => (by cases h), fun i h => (by cases h), ⟨rfl, rfl, rfl, Nat.le_refl _, fun _ _ _ => rfl⟩, HStep.refl _ _⟩

/-- A LAW, OUT OF ITS CONTRACT. -/
theorem law_lifted {C : Checked} {os : Os} {f : FuncId} {fn : Func} {s : ChangeSpec} {tb : TypeId} (own : ownKnob C.prog.godebug = none) (started : os.Started) (noInit : C.prog.inits.idxOf? f = none) (hfn : C.prog.funcs[f]? = some fn)
    (witness : ∃ (w : World) (tape : Tape) (i : Input), w.os = os ∧ (w.forCall tape i).Shaped C.prog ∧ i.vars = [] ∧ Input.okWide C.prog (w.forCall tape i) .any w.heap.size f i ∧
      s.pre6 enc C.prog fn [] false (w.forCall tape i).memory i.args ∧ ({} : Assume).holds C.prog (lone (Frame.enter C.prog f i.args .normal) [] (w.forCall tape i)))
    (hl : laidOutB C.prog = true) (hvars : s.vars = []) (hres : fn.resultTypes = #[tb]) (hbool : C.prog.underlying tb = some .bool)
    (hty : (fn.params.toList.all fun t => treeTy C.prog 20 t) = true) (hrd : (fn.params.toList.all fun t => C.prog.readableRec t && decide (t < C.prog.types.size)) = true)
    (hs : ∀ ds : List (DataW H), ds.length = fn.params.size → s.fn H ds = { results := [.lit (.bool true)], args := ds })
    (law : ∀ xs : List TV, argsOk C.prog fn.params.toList xs → PCalls C.prog f xs (.bool true)) :
    ReturnsInHanded {} C os f .any (s.pre6 enc C.prog fn [] false) (s.post enc C.prog fn false true false false) := by
  refine returnsInHanded_of_change_sized own started noInit hfn witness ?_
  intro W base args ds gs before hval hW _ hsz _
  have hW' := hW
  obtain ⟨p, q, hA, hV, rfl, hfz, hnd⟩ := hW
  rw [hvars] at hV
  obtain ⟨rfl, rfl⟩ := trodVars_none hV
  have hp : s.plain.varTypes C.prog = [] := by
    unfold DataSpec.varTypes
    have : s.plain.vars = [] := hvars
    simp [this]
  rw [hp, List.append_nil, List.append_nil] at hsz
  obtain ⟨xs, h1, h2, h3⟩ := args_rep hty (fun j t v a b => hval j t v (by simpa using a) (by simpa using b)) hA hsz
  obtain ⟨_, hc⟩ := law xs h2
  have hlt : ∀ x ∈ p, x.block < W.heap.size := fun x hx => by simpa using hW'.lt x (by simpa using hx)
  have hcall := hc W (allF W) (fun _ => (0, 0)) args.toList (RH_start W) ⟨by simpa using h1.1, fun i pv u a b => by
    simp only [List.getElem?_map, Option.map_eq_some_iff] at a
    obtain ⟨x, hx, rfl⟩ := a
    exact h1.2 i x u hx b⟩
  rw [show args.toList.toArray = args from by simp] at hcall
  refine hcall.mono fun e W' ⟨u, F', φ', he, hR, hu⟩ => ?_
  subst he
  have hu' : u = .bool true := RepT.bool_inv hu
  subst hu'
  have hb : Below W.heap.size W W' := ⟨hR.bel.os, hR.bel.tape, hR.bel.output, hR.bel.size, fun k hk => hR.bel.block k hk (by rintro ⟨id, h, _⟩; cases h)⟩
  have hlen : ds.length = fn.params.size := by
    have : ∀ {ts : List TypeId} {vs : List Value} {ds : List (DataW H)} {ps : List MemPlace}, DataW.TrodAll enc C.prog W 0 (fun _ => true) true ts vs ds ps → ds.length = ts.length := by
      intro ts
      induction ts with
      | nil => intro vs ds ps h; obtain ⟨rfl, rfl, rfl⟩ := trodAll_nil h; rfl
      | cons t ts ih => intro vs ds ps h; obtain ⟨v, vs1, d, ds1, a, b, rfl, rfl, rfl, h1, h2⟩ := trodAll_cons h; simp [ih h2]
    simpa using this hA
  have hsf := hs ds hlen
  refine ⟨_, rfl, ds, [], p ++ [], [], p, [], hW', ?_, ?_, ?_, ⟨hb.os, hb.output, fun i hi => ?_⟩, fun h => by cases h⟩
  · rw [List.append_nil, hsf, hres]
    exact trodAll_mk1 (shut_bool hbool true)
  · rw [List.append_nil, hsf]
    exact trodAll_below hl hb hrd hA hlt
  · rw [List.append_nil, hsf, hvars]; exact rfl
  · have := (World.keptBut_refl W (fun p' => p' ∈ p ++ [] ∧ (p' ∈ ([] : List MemPlace) ∨ p' ∈ p ∨ p' ∈ ([] : List MemPlace)))).2.2 i hi
    rw [hb.block i hi]; exact this
end

end Go.Pm
