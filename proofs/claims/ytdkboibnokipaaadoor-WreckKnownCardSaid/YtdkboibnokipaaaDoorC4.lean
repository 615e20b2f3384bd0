/- What the claim leans on, text 4. -/
import Derived.RecoverIn
import Derived.Test.YtdkboibnokipaaaDoorC3
set_option linter.unusedSimpArgs false
set_option linter.unusedVariables false

/- Part QmDf. -/
namespace Go.Pm
open Go Go.RowKit

variable {P : Program} {C : Cx} {F F' : Fz} {φ φ' : Nat → Nat × Nat} {h h' : Hp} {w w' : World}

def modeOf : Option Value → FrameMode
 | none => .returning
 | some V => .panicking [{ v := V, recovered := false }]
def recOf : Option Value → Value
 | none => .nilIface
 | some V => V
def HDef (P : Program) (g : FuncId) (as : List PV) (h : Hp) (m : Option Value) (h' : Hp) : Prop :=
 FnOk P g ∧ ∀ (w : World) (F : Fz) (φ : Nat → Nat × Nat) (us : List Value), RH P (loc w F φ h) F φ h w → RPs F φ h as us →
  CallsDIn (Fr none) 0 P g us.toArray (modeOf m) w fun e u' w' => ∃ v F' φ', e = .returned v ∧ settle u' = .returning ∧ RH P (loc w F φ h) F' φ' h' w'

theorem run_recover {a : Act} {o : Oper} (ho : o.op = .call { callee := .builtin .recover, args := #[], argTypes := #[] }) : (execOp a.eval o).run P w = .ok .recover w := by
 simp only [execOp, ho, resolve, invoke]
 rfl
theorem hdef_of (hm : P.follows .mixedOrders = true) {g : FuncId} {fn : Func} {rid : Nat} {oA oB : Oper} {c : Code} {as : List PV} {m : Option Value} {x : TV} {dA dB k : Nat} (hf : P.funcs[g]? = some fn) (hb : fn.body = some (.seq (.region rid #[oA, oB] false) c)) (hname : (fn.name == "runtime.NumGoroutine") = false)
  (hA : oA.op = .call { callee := .builtin .recover, args := #[], argTypes := #[] }) (hAg : oA.guard = none) (hAd : oA.dst = some dA) (hB : oB.op = .assign (.tmp dA)) (hBg : oB.guard = none) (hBd : oB.dst = some dB) (hlt : dA < fn.ntmps) (hlen : as.length ≤ fn.ntmps) (hx : ∀ F, RepT F x (recOf m)) (hres : fn.results.toList = [])
  (hk : ∀ id, k ≤ id → h id = .res) {σ0 : PS} (hw : Weak P k ⟨((as ++ List.replicate (fn.ntmps - as.length) pv_undef).set dA (.t x)).set dB (.t x), h⟩ σ0)
  (hp : pwp P ⟨noY, k, true⟩ c (fun e s => (e = .normal ∨ e = .ret) ∧ Weak P k ⟨[], s.heap⟩ ⟨[], h'⟩) σ0) : HDef P g as h m h' := by
 refine ⟨⟨fn, hf, by rw [hb]; rfl, hname⟩, fun w F φ us H hus => callsDIn_of_wpSIn hf hb trivial fun c₀ cs hu => ?_⟩
 refine wpSIn_seq (wpSIn_region ?_)
 let C : Cx := { loc w F φ h with nm := true }
 have hCr : RH P C F φ h w := ⟨H.agree, H.more, H.news, H.objs, H.inj, H.high, H.bel, H.step, H.glob⟩
 have hst := JTrue.stable C.w0.heap.size C.E
 obtain ⟨tm, htm⟩ : ∃ tm, tm = (us.toArray ++ Array.replicate (fn.ntmps - us.toArray.size) undef) := ⟨_, rfl⟩
 have hstart := RTm.start hus fn.ntmps
 rw [← htm] at hstart ⊢
 have hR : R P C JTrue ⟨((as ++ List.replicate (fn.ntmps - as.length) pv_undef).set dA (.t x)).set dB (.t x), h⟩ { tmps := (tm.setIfInBounds dA (recOf m)).setIfInBounds dB (recOf m), defers := [] } w :=
  ⟨F, φ, fun _ => False, hCr, (hstart.put dA (v := .t x) (hx F)).put dB (v := .t x) (hx F), fun b hb => hb.elim, ⟨[], rfl, ⟨List.nodup_nil, fun _ => rfl⟩, fun d hd => by cases hd⟩, rfl⟩
 have hwalk := pwp_sound hm c ⟨noY, k, true⟩ _ none 0 C JTrue _ _ w noY_ok hst hk (fun e => by cases e) (fun e => by cases e) hp (hw _ _ _ _ hst hk hR)
 have hread : ∀ v : Value, (tm.setIfInBounds dA v).getD dA undef = v := by
  intro v
  have hsz : dA < tm.size := by
   have : tm.size = fn.ntmps := by rw [htm]; simp [hus.1]; omega
   omega
  simp [Array.getD, hsz]
 have fin : ∀ (u' : FrameMode), settle u' = .returning → Code.wpSIn (Fr none) 0 P c (bodyPostS P fn c₀ cs fun e u' w' => ∃ v F' φ', e = .returned v ∧ settle u' = .returning ∧ RH P (loc w F φ h) F' φ' h' w') { tmps := (tm.setIfInBounds dA (recOf m)).setIfInBounds dB (recOf m), defers := [] } ({ c₀ with mode := u' } :: cs) w := by
  intro u' hu'
  refine wpSIn_of_wpIn rfl (wpIn_mono hwalk fun e a' w' he => ?_)
  obtain ⟨s, ⟨hex, hweak⟩, hR'⟩ := he
  obtain ⟨F2, φ2, G2, H2, hr2, hid2, ⟨ms, hms, hmn, hmd⟩, hJ2⟩ := id hR'
  have hms0 := hmn.2 rfl
  subst hms0
  have hdef : a'.defers = [] := hms
  obtain ⟨v, hv, _⟩ := run_results (fn := fn) (r := .t (.tup [])) H2 hr2 (by rw [hres]; rfl)
  obtain ⟨F3, φ3, G3, H3, _⟩ := hweak _ _ _ _ hst hk (R_heap hR')
  have H3' : RH P (loc w F φ h) F3 φ3 h' w' := ⟨H3.agree, H3.more, H3.news, H3.objs, H3.inj, H3.high, H3.bel, H3.step, H3.glob⟩
  rcases hex with rfl | rfl
  ·exact ⟨hdef, u', rfl, v, hv, v, F3, φ3, rfl, hu', H3'⟩
  ·exact ⟨hdef, u', rfl, v, hv, v, F3, φ3, rfl, hu', H3'⟩
 have h2 : List.range (#[oA, oB] : Array Oper).size = [0, 1] := rfl
 rw [h2]
 have wA : Region.wanted oA (yielded #[oA, oB] tm) = true := by unfold Region.wanted; rw [hAg]
 have wB : ∀ t, Region.wanted oB (yielded #[oA, oB] t) = true := fun t => by unfold Region.wanted; rw [hBg]
 unfold wpOpsSIn
 have g0 : (#[oA, oB] : Array Oper)[0]? = some oA := rfl
 simp only [g0]
 refine ⟨fun _ _ => trivial, ?_⟩
 rw [if_pos wA, run_recover hA]
 have step2 : ∀ (cs' : List Frame), Code.wpSIn (Fr none) 0 P c (bodyPostS P fn c₀ cs fun e u' w' => ∃ v F' φ', e = .returned v ∧ settle u' = .returning ∧ RH P (loc w F φ h) F' φ' h' w') { tmps := (tm.setIfInBounds dA (recOf m)).setIfInBounds dB (recOf m), defers := [] } cs' w →
   wpOpsSIn (Fr none) 0 P #[oA, oB] (Exit.thenS (Code.wpSIn (Fr none) 0 P c (bodyPostS P fn c₀ cs fun e u' w' => ∃ v F' φ', e = .returned v ∧ settle u' = .returning ∧ RH P (loc w F φ h) F' φ' h' w')) (bodyPostS P fn c₀ cs fun e u' w' => ∃ v F' φ', e = .returned v ∧ settle u' = .returning ∧ RH P (loc w F φ h) F' φ' h' w')) [1] (({ tmps := tm, defers := [] } : Act).put oA.dst (recOf m)) cs' w := by
  intro cs' hc
  unfold wpOpsSIn
  have g1 : (#[oA, oB] : Array Oper)[1]? = some oB := rfl
  simp only [g1]
  refine ⟨fun _ _ => trivial, ?_⟩
  rw [if_pos (wB _)]
  have e1 : (execOp (({ tmps := tm, defers := [] } : Act).put oA.dst (recOf m)).eval oB).run P w = .ok (.value (recOf m)) w := by
   simp only [execOp, hB, hAd, Act.put, Act.eval, Sem.run_pure]
   rw [hread]
  rw [e1]
  simp only
  unfold wpOpsSIn
  simp only [Exit.thenS, hAd, hBd, Act.put]
  exact hc
 cases m with
 | none =>
  have hrec : recoverD (c₀ :: cs) = none := by simp [recoverD, hu, modeOf]
  simp only [hrec]
  refine step2 (c₀ :: cs) ?_
  have := fin .returning rfl
  have hc0 : ({ c₀ with mode := FrameMode.returning } : Frame) = c₀ := by
   have hu' : c₀.mode = FrameMode.returning := hu
   rw [← hu']
  rw [hc0] at this
  exact this
 | some V =>
  have hrec : recoverD (c₀ :: cs) = some (V, { c₀ with mode := .panicking [{ v := V, recovered := true }] } :: cs) := by simp [recoverD, hu, modeOf]
  simp only [hrec]
  exact step2 _ (fin _ rfl)
def bodyDf (P : Program) (k k2 : Nat) (g : FuncId) (ids : List Nat) (rs : List ResultVar) (v : PV) (h' : Hp) : Exit → PS → Prop
 | .normal, s | .ret, s => ∃ s1 h1, Weak P k2 s s1 ∧ (∀ id ∈ ids, isBox s1.heap id) ∧ HDef P g (ids.map fun id => .ptr id 0) s1.heap none h1 ∧ ∃ p, resO P rs ⟨s1.tmps, h1⟩ = some p ∧ Weak P k ⟨[p], h1⟩ ⟨[v], h'⟩
 | .panic ch, s => ∃ V s1 h1, ch = [{ v := V, recovered := false }] ∧ Weak P k2 s s1 ∧ (∀ id ∈ ids, isBox s1.heap id) ∧ HDef P g (ids.map fun id => .ptr id 0) s1.heap (some V) h1 ∧ ∃ p, resO P rs ⟨s1.tmps, h1⟩ = some p ∧ Weak P k ⟨[p], h1⟩ ⟨[v], h'⟩
 | _, _ => False
theorem RH.to (H : RH P C F φ h w) {ds : List Deferred} {nm : Bool} : RH P ⟨C.w0, C.F0, C.h0, C.φ0, C.E, ds, nm⟩ F φ h w := ⟨H.agree, H.more, H.news, H.objs, H.inj, H.high, H.bel, H.step, H.glob⟩
theorem hcallsD_of (hm : P.follows .mixedOrders = true) {f : FuncId} {fn : Func} {rid : Nat} {o1 o2 : Oper} {c0 c1 : Code} {as : List PV} {v : PV} {k k2 d : Nat} {g : FuncId} {ids : List Nat} (hf : P.funcs[f]? = some fn) (hb : fn.body = some (.seq c0 (.seq (.region rid #[o1, o2] false) c1))) (hname : (fn.name == "runtime.NumGoroutine") = false)
  (h2 : o2.op = .defer { callee := .value (.tmp d), args := #[], argTypes := #[] }) (h2g : o2.guard = none) (h2d : o2.dst = none)
  (hk : ∀ id, k ≤ id → h id = .res) {σ0 : PS} (hw : Weak P k ⟨as ++ List.replicate (fn.ntmps - as.length) pv_undef, h⟩ σ0)
  (hp : pwp P ⟨noY, k, true⟩ c0 (fun e s => e = .normal ∧ pops P noY #[o1, o2] [0] s [] fun s2 _ => ∃ s3, Weak P k s2 s3 ∧ s3.eval (.tmp d) = .fnc g ids ∧ (∀ id, k2 ≤ id → s3.heap id = .res) ∧ pwp P ⟨noY, k2, true⟩ c1 (bodyDf P k k2 g ids fn.results.toList v h') s3) σ0) : HCalls P f as h v h' := by
 refine ⟨⟨fn, hf, by rw [hb]; rfl, hname⟩, fun w F φ us H hus => calls_of hf hb ?_⟩
 let C : Cx := { loc w F φ h with nm := true }
 have hR : R P C JTrue ⟨as ++ List.replicate (fn.ntmps - as.length) pv_undef, h⟩ { tmps := us.toArray ++ Array.replicate (fn.ntmps - us.toArray.size) undef, defers := [] } w :=
  ⟨F, φ, fun _ => False, H.to, RTm.start hus _, fun b hb => hb.elim, ⟨[], rfl, ⟨List.nodup_nil, fun _ => rfl⟩, fun d hd => by cases hd⟩, rfl⟩
 have hst := JTrue.stable C.w0.heap.size C.E
 refine wpIn_seq (wpIn_mono (pwp_sound hm c0 ⟨noY, k, true⟩ _ none 0 C JTrue _ _ w noY_ok hst hk (fun e => by cases e) (fun e => by cases e) hp (hw _ _ _ _ hst hk hR)) fun e a1 w1 he => ?_)
 obtain ⟨s, ⟨rfl, hs⟩, hR1⟩ := he
 show (Code.seq (.region rid #[o1, o2] false) c1).wpIn (Fr none) 0 P _ a1 w1
 refine wpIn_seq (wpIn_region ?_)
 have e0 : List.range (#[o1, o2] : Array Oper).size = [0, 1] := rfl
 rw [e0]
 obtain ⟨σ', fo, ⟨o, W, ho, hst'⟩, s3, hweak3, hfn, hk3, hwalk⟩ := hs
 refine wpOpsIn_congr 0 ho (step_sim noY_ok hst hst' hR1 fun a2 w2 hR2 => ?_)
 have hR3 := hweak3 _ _ _ _ hst hk hR2
 obtain ⟨F2, φ2, G2, H2, hr2, hid2, ⟨ms, hms, hmn, hmd⟩, hJ2⟩ := id hR3
 have hms0 := hmn.2 rfl
 subst hms0
 have hdef2 : a2.defers = [] := hms
 have hg2 := eval_rep H2.glob hr2 (.tmp d)
 rw [hfn] at hg2
 obtain ⟨hboxes, hu⟩ := hg2
 obtain ⟨ptrs, hptrs⟩ : ∃ ptrs, (ids.map fun id => Value.pointer (some ⟨(φ2 id).1, 0, none⟩)) = ptrs := ⟨_, rfl⟩
 rw [hptrs] at hu
 obtain ⟨D, hD⟩ : ∃ D : Deferred, D = { target := .fn (.func g) ptrs.toArray, args := #[] } := ⟨_, rfl⟩
 unfold wpOpsIn
 have g1 : (#[o1, o2] : Array Oper)[1]? = some o2 := rfl
 have wB : Region.wanted o2 (yielded #[o1, o2] a2.tmps) = true := by unfold Region.wanted; rw [h2g]
 simp only [g1]
 rw [if_pos wB]
 refine ⟨fun _ _ => trivial, ?_⟩
 have hrun : (o2.semAt (Fr none).round a2.eval).run P w2 = .ok (.defer D) w2 := by
  show (execOp a2.eval o2).run P w2 = _
  simp only [execOp, h2, resolve, hu]
  rw [hD]
  simp [Deferred.ofValue]
 rw [hrun]
 rw [Oper.uponIn_defer, h2d, hdef2]
 simp only [wpOpsIn, Exit.then, Act.put]
 let C1 : Cx := { loc w2 F2 φ2 s3.heap with ds := [D], nm := true }
 have hR4 : R P C1 JTrue s3 { tmps := a2.tmps, defers := [D] } w2 :=
  ⟨F2, φ2, fun _ => False, H2.here.to, hr2, fun b hb => hb.elim, ⟨[], rfl, ⟨List.nodup_nil, fun _ => rfl⟩, fun d hd => by cases hd⟩, rfl⟩
 have hst1 := JTrue.stable C1.w0.heap.size C1.E
 have hinv : ∀ w3, (invoke D.target D.args).run P w3 = (callFunc g ptrs.toArray).run P w3 := by
  intro w3; rw [hD]; simp [invoke]
 have fin : ∀ (m : Option Value) (s : PS) (a4 : Act) (w4 : World), R P C1 JTrue s a4 w4 → (∃ s1 h1, Weak P k2 s s1 ∧ (∀ id ∈ ids, isBox s1.heap id) ∧ HDef P g (ids.map fun id => .ptr id 0) s1.heap m h1 ∧ ∃ p, resO P fn.results.toList ⟨s1.tmps, h1⟩ = some p ∧ Weak P k ⟨[p], h1⟩ ⟨[v], h'⟩) →
   LeavesInM (Fr none) 0 P fn a4.tmps (fun e w' => ∃ u F' φ', e = .returned u ∧ RH P (loc w F φ h) F' φ' h' w' ∧ RepP F' φ' h' v u) a4.defers (modeOf m) w4 := by
  rintro m s a4 w4 hRs ⟨s1, h1, hweak, hbx, hdf, p, hres, hweakp⟩
  have hRs1 := hweak _ _ _ _ hst1 hk3 hRs
  obtain ⟨_, _, _, _, _, _, ⟨ms, hms, _⟩, _⟩ := id hRs1
  refine leavesM (C := C1) hst1 (by cases m <;> simp [modeOf]) (fun w5 hR5 => ?_) ms a4.defers w4 hms hRs1
  obtain ⟨F5, φ5, G5, H5, hr5, hid5, hm5, hJ5⟩ := hR5
  obtain ⟨⟨gn, hgf, hgb, hgn⟩, hdc⟩ := hdf
  have hcall : (callFunc g ptrs.toArray).run P w5 = .ok (.enter g ptrs.toArray) w5 := by
   simp only [callFunc, Sem.run_bind, run_program, Result.andThen_ok, hgf, hgn, hgb, Bool.false_eq_true, if_false, Sem.run_pure]
  have hp5 : RPs F5 φ5 s1.heap (ids.map fun id => .ptr id 0) ptrs := by
   rw [← hptrs]
   refine ⟨by simp, fun i q u hq hu => ?_⟩
   simp only [List.getElem?_map, Option.map_eq_some_iff] at hq hu
   obtain ⟨id, hid, rfl⟩ := hq
   obtain ⟨id', hid', rfl⟩ := hu
   rw [hid] at hid'; cases hid'
   have hmem := List.mem_of_getElem? hid
   have hst5 := (hboxes id hmem).step H5.step
   exact ⟨hbx id hmem, by rw [hst5.2]; rfl⟩
  have H5l : RH P (loc w2 F2 φ2 s3.heap) F5 φ5 s1.heap w5 := ⟨H5.agree, H5.more, H5.news, H5.objs, H5.inj, H5.high, H5.bel, H5.step, H5.glob⟩
  show LeavesInM (Fr none) 0 P fn a4.tmps _ [D] (modeOf m) w5
  refine ⟨by cases m <;> simp [modeOf], .inr ⟨(fun e => by cases e), .func g, ptrs.toArray, g, ptrs.toArray, by rw [hD], by rw [hinv]; exact hcall, fun _ _ => trivial, ?_⟩⟩
  have hcd := hdc w5 F5 φ5 ptrs H5l.here hp5
  refine ⟨hcd.1, fun c cs hmo hro => ?_⟩
  obtain ⟨e, u', w6, fr, ⟨vv, F6, φ6, rfl, hset, H6⟩, q1, q2, q3, q4⟩ := hcd.2 c cs hmo hro
  refine ⟨_, u', w6, fr, ?_, q1, q2, q3, q4⟩
  show LeavesInM (Fr none) 0 P fn a4.tmps _ [] (settle u') w6
  rw [hset]
  have H6C : RH P (loc w F φ h) F6 φ6 h1 w6 := ((show RH P (loc w F φ h) F2 φ2 s3.heap w2 from ⟨H2.agree, H2.more, H2.news, H2.objs, H2.inj, H2.high, H2.bel, H2.step, H2.glob⟩).trans H5l).trans H6
  obtain ⟨u, hu, ru⟩ := run_results (fn := fn) (σ := ⟨s1.tmps, h1⟩) H6C (hr5.step H6.more H6.step) hres
  have hR7 : R P (loc w F φ h) JTrue ⟨[p], h1⟩ { tmps := #[u], defers := [] } w6 :=
   ⟨F6, φ6, fun _ => False, H6C, ⟨rfl, fun i q u' h1 h2 => by
    cases i with
    | zero => simp at h1 h2; subst h1; subst h2; exact ru
    | succ i => simp at h1⟩, fun b hb => hb.elim, ⟨[], rfl, ⟨List.nodup_nil, fun _ => rfl⟩, fun d hd => by cases hd⟩, rfl⟩
  obtain ⟨F7, φ7, G7, H7, hr7, _⟩ := hweakp _ _ _ _ (JTrue.stable _ _) hk hR7
  exact ⟨u, hu, u, F7, φ7, rfl, H7, hr7.2 0 v u rfl rfl⟩
 refine wpIn_mono (pwp_sound hm c1 ⟨noY, k2, true⟩ _ none 0 C1 JTrue _ _ w2 noY_ok hst1 hk3 (fun e => by cases e) (fun e => by cases e) hwalk hR4) fun e a4 w4 he => ?_
 obtain ⟨s4, hs4, hR5⟩ := he
 cases e with
 | normal => exact fin none s4 a4 w4 hR5 hs4
 | ret => exact fin none s4 a4 w4 hR5 hs4
 | panic ch =>
  obtain ⟨V, s1, h1, rfl, hrest⟩ := hs4
  exact fin (some V) s4 a4 w4 hR5 ⟨s1, h1, hrest⟩
 | _ => exact hs4.elim

/-! ### Reckoned -/
theorem hp_weak {k : Nat} {s : CS} {hl' : List PO} {n : Nat} (h4 : heapW hl' s.heap hl') (h5 : hl'.all (PO.under hl'.length) = true) (h6 : k ≤ hl'.length) (h7 : cntL hl' = cntL s.heap) : Weak P k ⟨[], (toPS n s).heap⟩ ⟨[], getL hl'⟩ := by
 refine weak_of (m := hl'.length) h6 rfl (fun i q q' hq hq' => by simp at hq) (fun id hid => ⟨heapW_le h4 id hid, ?_⟩) (fun id hid => getL_out hid) (by show cntOf (getL hl') = cntOf (getL s.heap); rw [cntL_eq, cntL_eq, h7])
 rw [List.all_eq_true] at h5
 refine h5 _ ?_
 show hl'.getD id .res ∈ hl'
 rw [List.getD_eq_getElem?_getD, List.getElem?_eq_getElem hid]; exact List.getElem_mem hid
def bodyR (k : Nat) (hl' : List PO) : Exit → CS → Prop := fun e s => (e = .normal ∨ e = .ret) ∧ heapW hl' s.heap hl' ∧ hl'.all (PO.under hl'.length) = true ∧ k ≤ hl'.length ∧ cntL hl' = cntL s.heap
theorem hdef_by (hm : P.follows .mixedOrders = true) {sp : Spec} (hsp : SpecOk P sp) {g : FuncId} {fn : Func} {rid : Nat} {oA oB : Oper} {c : Code} {as : List PV} {m : Option Value} {x : TV} {dA dB : Nat} {hl hl' : List PO} (hf : P.funcs[g]? = some fn) (hb : fn.body = some (.seq (.region rid #[oA, oB] false) c)) (hname : (fn.name == "runtime.NumGoroutine") = false)
  (hA : oA.op = .call { callee := .builtin .recover, args := #[], argTypes := #[] }) (hAg : oA.guard = none) (hAd : oA.dst = some dA) (hB : oB.op = .assign (.tmp dA)) (hBg : oB.guard = none) (hBd : oB.dst = some dB) (hltA : dA < fn.ntmps) (hltB : dB < fn.ntmps) (hlen : as.length ≤ fn.ntmps) (hx : ∀ F, RepT F x (recOf m)) (hres : fn.results.toList = [])
  (h : pwpC P sp ⟨noY, hl.length, true⟩ fn.ntmps c (bodyR hl.length hl') { env := (dB, .t x) :: (dA, .t x) :: argsE as 0, heap := hl }) : HDef P g as (getL hl) m (getL hl') := by
 have hk : keysOk fn.ntmps ((dB, PV.t x) :: (dA, PV.t x) :: argsE as 0) = true := by
  have := argsE_keys as 0 fn.ntmps (by omega)
  simp only [keysOk, List.all_cons, Bool.and_eq_true, decide_eq_true_eq] at this ⊢
  exact ⟨hltB, hltA, this⟩
 have hw := pwpC_pwp hsp c _ _ { env := (dB, .t x) :: (dA, .t x) :: argsE as 0, heap := hl } hk h
 refine hdef_of (k := hl.length) hm hf hb hname hA hAg hAd hB hBg hBd hltA hlen hx hres (fun id hid => getL_out hid) ?_ (pwp_mono c (fun e σ hs => ?_) _ hw)
 ·have h1 := start_weak (P := P) (k := hl.length) (n := fn.ntmps) (as := as) (hl := hl) hlen
  rintro C J a w hst hk' ⟨F, φ, G, H, hr, hid, hmk, hJ⟩
  refine ⟨F, φ, G, H, ⟨?_, fun i p u hp hu => ?_⟩, hid, hmk, hJ⟩
  ·have := hr.1; simp [toPS] at this ⊢; omega
  ·simp only [toPS, List.getElem?_map, Option.map_eq_some_iff, range_get] at hp
   obtain ⟨j, hj, rfl⟩ := hp
   split at hj
   ·rename_i hin
    cases hj
    have hlenR : (as ++ List.replicate (fn.ntmps - as.length) pv_undef).length = fn.ntmps := by simp; omega
    by_cases eB : dB = i
    ·subst eB
     have := hr.2 dB (.t x) u (by rw [List.getElem?_set_self (by rw [List.length_set, hlenR]; exact hltB)]) hu
     unfold getA; rw [if_pos rfl]; exact this
    ·by_cases eA : dA = i
     ·subst eA
      have := hr.2 dA (.t x) u (by rw [List.getElem?_set_ne eB, List.getElem?_set_self (by rw [hlenR]; exact hltA)]) hu
      unfold getA; rw [if_neg eB]; unfold getA; rw [if_pos rfl]; exact this
     ·unfold getA; rw [if_neg eB]; unfold getA; rw [if_neg eA, argsE_get]
      simp only [Nat.zero_le, if_true, Nat.sub_zero]
      cases hxx : as[i]? with
      | none => trivial
      | some y =>
       refine hr.2 i y u ?_ hu
       have hlt := (List.getElem?_eq_some_iff.1 hxx).1
       rw [List.getElem?_set_ne eB, List.getElem?_set_ne eA, List.getElem?_append_left hlt, hxx]
   ·cases hj
 ·obtain ⟨s', rfl, hk', hex, h4, h5, h6, h7⟩ := hs
  exact ⟨hex, hp_weak h4 h5 h6 h7⟩

def endD (P : Program) (k k2 n : Nat) (g : FuncId) (ids : List Nat) (rs : List ResultVar) (v : PV) (hlf : List PO) (m : Option Value) (s : CS) : Prop :=
 ∃ (T : List (Nat × PV)) (hl1 hl2 : List PO), weakW k2 s ⟨T, hl1⟩ ∧ keysOk n T = true ∧ (∀ id ∈ ids, isBox (getL hl1) id) ∧ HDef P g (ids.map fun id => .ptr id 0) (getL hl1) m (getL hl2) ∧
  ∃ p, resC P rs ⟨T, hl2⟩ = some p ∧ cellW hlf p v ∧ v.under hlf.length = true ∧ heapW hlf hl2 hlf ∧ hlf.all (PO.under hlf.length) = true ∧ k ≤ hlf.length ∧ cntL hlf = cntL hl2
def bodyDC (P : Program) (k k2 n : Nat) (g : FuncId) (ids : List Nat) (rs : List ResultVar) (v : PV) (hlf : List PO) : Exit → CS → Prop
 | .normal, s | .ret, s => endD P k k2 n g ids rs v hlf none s
 | .panic ch, s => ∃ V, ch = [{ v := V, recovered := false }] ∧ endD P k k2 n g ids rs v hlf (some V) s
 | _, _ => False
theorem endD_of {k k2 n : Nat} {g : FuncId} {ids : List Nat} {rs : List ResultVar} {v : PV} {hlf : List PO} {m : Option Value} {s : CS} (h : endD P k k2 n g ids rs v hlf m s) :
  ∃ s1 h1, Weak P k2 (toPS n s) s1 ∧ (∀ id ∈ ids, isBox s1.heap id) ∧ HDef P g (ids.map fun id => .ptr id 0) s1.heap m h1 ∧ ∃ p, resO P rs ⟨s1.tmps, h1⟩ = some p ∧ Weak P k ⟨[p], h1⟩ ⟨[v], getL hlf⟩ := by
 obtain ⟨T, hl1, hl2, hw, hkT, hbx, hd, p, hres, h2, h3, h4, h5, h6, h7⟩ := h
 refine ⟨toPS n ⟨T, hl1⟩, getL hl2, weakW_weak hw, hbx, hd, p, ?_, weak_of (m := hlf.length) h6 rfl (fun i q q' hq hq' => ?_) (fun id hid => ⟨heapW_le h4 id hid, ?_⟩) (fun id hid => getL_out hid) (by show cntOf (getL hlf) = cntOf (getL hl2); rw [cntL_eq, cntL_eq, h7])⟩
 ·exact (resC_eq (s := ⟨T, hl2⟩) hkT).trans hres
 ·cases i with
  | zero => simp at hq hq'; subst hq; subst hq'; exact ⟨cellW_le h2, h3⟩
  | succ i => simp at hq
 ·rw [List.all_eq_true] at h5
  refine h5 _ ?_
  show hlf.getD id .res ∈ hlf
  rw [List.getD_eq_getElem?_getD, List.getElem?_eq_getElem hid]; exact List.getElem_mem hid
noncomputable def behindD (P : Program) (sp : Spec) (n k k2 d : Nat) (g : FuncId) (ids : List Nat) (rs : List ResultVar) (v : PV) (hlf : List PO) (c1 : Code) : CS → Foot → Prop := fun s2 _ => getA s2.env d = .fnc g ids ∧ s2.heap.length = k2 ∧ pwpC P sp ⟨noY, k2, true⟩ n c1 (bodyDC P k k2 n g ids rs v hlf) s2
noncomputable def aheadD (P : Program) (sp : Spec) (n k k2 d : Nat) (g : FuncId) (ids : List Nat) (rs : List ResultVar) (v : PV) (hlf : List PO) (o1 o2 : Oper) (c1 : Code) : Exit → CS → Prop
 | .normal, s => stepC P sp noY n #[o1, o2] o1 s (behindD P sp n k k2 d g ids rs v hlf c1) fun _ _ => False
 | _, _ => False
theorem hcallsD_by (hm : P.follows .mixedOrders = true) {sp : Spec} (hsp : SpecOk P sp) {f : FuncId} {fn : Func} {rid : Nat} {o1 o2 : Oper} {c0 c1 : Code} {as : List PV} {v : PV} {hl hlf : List PO} (k2 d : Nat) (g : FuncId) (ids : List Nat) (hf : P.funcs[f]? = some fn) (hb : fn.body = some (.seq c0 (.seq (.region rid #[o1, o2] false) c1))) (hname : (fn.name == "runtime.NumGoroutine") = false)
  (h2 : o2.op = .defer { callee := .value (.tmp d), args := #[], argTypes := #[] }) (h2g : o2.guard = none) (h2d : o2.dst = none) (hd : d < fn.ntmps) (hn : as.length ≤ fn.ntmps)
  (h : pwpC P sp ⟨noY, hl.length, true⟩ fn.ntmps c0 (aheadD P sp fn.ntmps hl.length k2 d g ids fn.results.toList v hlf o1 o2 c1) { env := argsE as 0, heap := hl }) : HCalls P f as (getL hl) v (getL hlf) := by
 have hk : keysOk fn.ntmps (argsE as 0) = true := argsE_keys _ 0 _ (by omega)
 have hw := pwpC_pwp hsp c0 _ _ { env := argsE as 0, heap := hl } hk h
 refine hcallsD_of (k := hl.length) (k2 := k2) (d := d) (g := g) (ids := ids) hm hf hb hname h2 h2g h2d (fun id hid => getL_out hid) (start_weak hn) (pwp_mono c0 (fun e σ hs => ?_) _ hw)
 obtain ⟨s', rfl, hk', hq⟩ := hs
 cases e with
 | normal =>
  refine ⟨rfl, ?_⟩
  have hq : stepC P sp noY fn.ntmps #[o1, o2] o1 s' (behindD P sp fn.ntmps hl.length k2 d g ids fn.results.toList v hlf c1) (fun _ _ => False) := hq
  rcases stepC_step (i := 0) hsp hk' (show (#[o1, o2] : Array Oper)[0]? = some o1 from rfl) hq with ⟨s2, f2, hs2, hk2, hfn, hlen, hc1⟩ | ⟨V, W, _, _, hz⟩
  ·refine ⟨_, f2, hs2, toPS fn.ntmps s2, Weak.refl _ _, ?_, fun id hid => getL_out (by omega), ?_⟩
   ·have := toPS_eval (n := fn.ntmps) hk2 (.tmp d)
    rw [this]; exact hfn
   ·refine pwp_mono c1 (fun e σ hs => ?_) _ (pwpC_pwp hsp c1 _ _ s2 hk2 hc1)
    obtain ⟨s3, rfl, hk3, hq3⟩ := hs
    cases e with
    | normal => exact endD_of hq3
    | ret => exact endD_of hq3
    | panic ch =>
     obtain ⟨V, rfl, h3⟩ := hq3
     obtain ⟨s1, h1, h4⟩ := endD_of h3
     exact ⟨V, s1, h1, rfl, h4⟩
    | _ => exact hq3.elim
  ·exact hz.elim
 | _ => exact hq.elim
section
variable (sp : Spec) (n k k2 d : Nat) (g : FuncId) (ids : List Nat) (rs : List ResultVar) (v : PV) (hlf : List PO) (o1 o2 : Oper) (c1 : Code) (s : CS) (f : Foot)
@[go_sem] theorem aheadD_eq : aheadD P sp n k k2 d g ids rs v hlf o1 o2 c1 .normal s = stepC P sp noY n #[o1, o2] o1 s (behindD P sp n k k2 d g ids rs v hlf c1) fun _ _ => False := rfl
@[go_sem] theorem behindD_eq : behindD P sp n k k2 d g ids rs v hlf c1 s f = (getA s.env d = .fnc g ids ∧ s.heap.length = k2 ∧ pwpC P sp ⟨noY, k2, true⟩ n c1 (bodyDC P k k2 n g ids rs v hlf) s) := rfl
@[go_sem] theorem bodyDC_n : bodyDC P k k2 n g ids rs v hlf .normal s = endD P k k2 n g ids rs v hlf none s := rfl
@[go_sem] theorem bodyDC_r : bodyDC P k k2 n g ids rs v hlf .ret s = endD P k k2 n g ids rs v hlf none s := rfl
theorem bodyDC_p (V : Value) : bodyDC P k k2 n g ids rs v hlf (.panic [{ v := V, recovered := false }]) s = endD P k k2 n g ids rs v hlf (some V) s := by
 refine propext ⟨?_, fun h => ⟨V, rfl, h⟩⟩
 rintro ⟨V', e, h⟩
 simp only [List.cons.injEq, and_true, PanicEntry.mk.injEq] at e
 cases e
 exact h
attribute [go_sem] bodyDC_p bodyR
end
end Go.Pm

/- Part QmEv. -/
namespace Go.Pm
open Go Go.RowKit

variable {P : Program}

def getB : List (Nat × PV) → Nat → PV
 | [], _ => .junk
 | (d, v) :: l, t => bif Nat.beq d t then v else getB l t
theorem getB_eq : ∀ (l : List (Nat × PV)) (t : Nat), getB l t = getA l t
 | [], _ => rfl
 | (d, v) :: l, t => by
  unfold getB getA
  rw [getB_eq l t]
  by_cases h : d = t
  ·subst h; simp
  ·rw [if_neg h]; have : Nat.beq d t = false := by cases hb : Nat.beq d t with
   | true => exact (h (Nat.eq_of_beq_eq_true hb)).elim
   | false => rfl
   rw [this]; rfl
def evalB (s : CS) : Operand → PV
 | .tmp t => getB s.env t
 | .const v => constP v
 | .func f => .t (.fn f [] [])
 | .global g => globP g
theorem evalB_eq (s : CS) : evalB s = s.eval := by
 funext x; cases x <;> first | rfl | exact getB_eq _ _

def dedE : List (Nat × PV) → List Nat → List (Nat × PV)
 | [], _ => []
 | (d, v) :: l, seen => bif seen.any (Nat.beq d) then dedE l seen else (d, v) :: dedE l (d :: seen)
theorem dedE_get : ∀ (l : List (Nat × PV)) (seen : List Nat) (t : Nat), t ∉ seen → getA (dedE l seen) t = getA l t
 | [], _, _, _ => rfl
 | (d, v) :: l, seen, t, h => by
  unfold dedE
  cases hd : seen.any (Nat.beq d) with
  | true =>
   have hm : d ∈ seen := by
    rw [List.any_eq_true] at hd
    obtain ⟨x, h1, h2⟩ := hd
    have : d = x := by simpa using h2
    rw [this]; exact h1
   have hne : d ≠ t := fun e => h (e ▸ hm)
   simp only [cond_true]
   rw [dedE_get l seen t h]
   show _ = if d = t then v else getA l t
   rw [if_neg hne]
  | false =>
   simp only [cond_false]
   show (if d = t then v else getA (dedE l (d :: seen)) t) = if d = t then v else getA l t
   by_cases e : d = t
   ·rw [if_pos e, if_pos e]
   ·rw [if_neg e, if_neg e]
    exact dedE_get l (d :: seen) t (by simp only [List.mem_cons, not_or]; exact ⟨fun h' => e h'.symm, h⟩)
theorem dedE_keys {n : Nat} : ∀ (l : List (Nat × PV)) (seen : List Nat), keysOk n l = true → keysOk n (dedE l seen) = true
 | [], _, _ => rfl
 | (d, v) :: l, seen, h => by
  simp only [keysOk, List.all_cons, Bool.and_eq_true, decide_eq_true_eq] at h
  unfold dedE
  cases seen.any (Nat.beq d) with
  | true => exact dedE_keys l seen (by simpa [keysOk] using h.2)
  | false =>
   simp only [cond_false, keysOk, List.all_cons, Bool.and_eq_true, decide_eq_true_eq]
   exact ⟨h.1, by have := dedE_keys l (d :: seen) (by simpa [keysOk] using h.2); simpa [keysOk] using this⟩
def comp (s : CS) : CS := { env := dedE s.env [], heap := s.heap }
theorem comp_ps {n : Nat} (s : CS) : toPS n (comp s) = toPS n s := by
 unfold toPS comp
 simp only [PS.mk.injEq, and_true]
 exact List.map_congr_left fun t _ => dedE_get s.env [] t (by simp)

noncomputable def stepE (P : Program) (sp : Spec) (Y : YS) (n : Nat) (ops : Array Oper) (o : Oper) (s : CS) : Option (CS × Foot) :=
 match guardC ops o s with
 | none => none
 | some b => bif sp.gd && !b then some (s.put n o.dst (condW o b .junk) s.heap, ([], false)) else match yldB b o.op (seenBy o b (evalB s)) with
  | some _ => none
  | none => match valY P sp Y o.op (seenBy o b (evalB s)) s.heap with
   | some (v, W, f) => bif b || W.isEmpty then some (s.put n o.dst (condW o b v) (wrC s.heap W), f) else none
   | none => bif b then none else some (s.put n o.dst (condW o b .junk) s.heap, ([], false))
theorem stepE_C {sp : Spec} {Y : YS} {n : Nat} {ops : Array Oper} {o : Oper} {s s' : CS} {f : Foot} {K : CS → Foot → Prop} {Z : Value → CS → Prop} (h : stepE P sp Y n ops o s = some (s', f)) (hK : K s' f) : stepC P sp Y n ops o s K Z := by
 unfold stepE at h
 rw [evalB_eq] at h
 unfold stepC
 split at h
 ·cases h
 ·rename_i b hb
  rw [hb]; simp only
  cases hgd : (sp.gd && !b) with
  | true =>
   rw [hgd] at h
   simp only [cond_true, Option.some.injEq, Prod.mk.injEq] at h
   obtain ⟨rfl, rfl⟩ := h
   exact hK
  | false =>
  rw [hgd] at h
  simp only [cond_false] at h ⊢
  split at h
  ·cases h
  ·rename_i hy
   split at h
   ·rename_i v W f' hv
    cases hbw : (b || W.isEmpty) with
    | false => rw [hbw] at h; cases h
    | true =>
     rw [hbw] at h
     simp only [cond_true, Option.some.injEq, Prod.mk.injEq] at h
     obtain ⟨rfl, rfl⟩ := h
     simp only [hy, hv]
     refine ⟨fun e => ?_, hK⟩
     subst e
     simpa using hbw
   ·rename_i hv
    cases b with
    | true => cases h
    | false =>
     simp only [cond_false, Option.some.injEq, Prod.mk.injEq] at h
     obtain ⟨rfl, rfl⟩ := h
     simp only [hy, hv]
     cases panC P sp o.op (seenBy o false s.eval) s.heap with
     | none => exact ⟨trivial, hK⟩
     | some r => exact ⟨fun e => (by cases e), fun _ => hK⟩
noncomputable def popsE (P : Program) (sp : Spec) (Y : YS) (n : Nat) (ops : Array Oper) : List Oper → CS → List Foot → Option (CS × List Foot)
 | [], s, fs => some (s, fs)
 | o :: l, s, fs => match stepE P sp Y n ops o s with
  | some (s', f) => popsE P sp Y n ops l s' (fs ++ [f])
  | none => none
theorem popsE_C {sp : Spec} {Y : YS} {n : Nat} {ops : Array Oper} {K : CS → List Foot → Prop} {Z : Value → CS → Prop} : ∀ (l : List Oper) (s : CS) (fs : List Foot) (s' : CS) (fs' : List Foot), popsE P sp Y n ops l s fs = some (s', fs') → K s' fs' → popsC P sp Y n ops l s fs K Z
 | [], s, fs, s', fs', h, hK => by unfold popsE at h; cases h; exact hK
 | o :: l, s, fs, s', fs', h, hK => by
  unfold popsE at h
  split at h
  ·rename_i s1 f h1
   exact stepE_C h1 (popsE_C l s1 _ s' fs' h hK)
  ·cases h

theorem stepE_key {sp : Spec} {Y : YS} {n : Nat} {ops : Array Oper} {o : Oper} {s s' : CS} {f : Foot} (hk : keysOk n s.env = true) (h : stepE P sp Y n ops o s = some (s', f)) : keysOk n s'.env = true := by
 unfold stepE at h
 split at h
 ·cases h
 ·rename_i b _
  cases hgd : (sp.gd && !b) with
  | true =>
   rw [hgd] at h
   simp only [cond_true, Option.some.injEq, Prod.mk.injEq] at h
   obtain ⟨rfl, _⟩ := h
   exact keys_put hk _ _ _
  | false =>
  rw [hgd] at h
  simp only [cond_false] at h
  split at h
  ·cases h
  ·split at h
   ·rename_i v W f' _
    cases hbw : (b || W.isEmpty) <;> rw [hbw] at h
    ·cases h
    ·simp only [cond_true, Option.some.injEq, Prod.mk.injEq] at h
     obtain ⟨rfl, _⟩ := h
     exact keys_put hk _ _ _
   ·cases b
    ·simp only [cond_false, Option.some.injEq, Prod.mk.injEq] at h
     obtain ⟨rfl, _⟩ := h
     exact keys_put hk _ _ _
    ·cases h
theorem popsE_key {sp : Spec} {Y : YS} {n : Nat} {ops : Array Oper} : ∀ (l : List Oper) (s : CS) (fs : List Foot) (s' : CS) (fs' : List Foot), keysOk n s.env = true → popsE P sp Y n ops l s fs = some (s', fs') → keysOk n s'.env = true
 | [], s, fs, s', fs', hk, h => by unfold popsE at h; cases h; exact hk
 | o :: l, s, fs, s', fs', hk, h => by
  unfold popsE at h
  split at h
  ·rename_i s1 f h1
   exact popsE_key l s1 _ s' fs' (stepE_key hk h1) h
  ·cases h

noncomputable def loopE (g : CS → Option (Exit × CS)) : Nat → CS → Option (Exit × CS)
 | 0, _ => none
 | k + 1, s => match g s with
  | some (.normal, s') => loopE g k (comp s')
  | r => r
noncomputable def ev (P : Program) (sp : Spec) (N n : Nat) : Code → CS → Option (Exit × CS)
 | .skip, s => some (.normal, s)
 | .label _, s => some (.normal, s)
 | .region _ ops draw, s => match popsE P sp noY n ops ops.toList s [] with
  | some (s', fs) => bif !draw || drawOk ops fs then some (.normal, s') else none
  | none => none
 | .seq a b, s => match ev P sp N n a s with
  | some (.normal, s') => ev P sp N n b s'
  | r => r
 | .cond c a b, s => match evalB s c with
  | .t (.bool true) => ev P sp N n a s
  | .t (.bool false) => ev P sp N n b s
  | _ => none
 | .block id c, s => match ev P sp N n c s with
  | some (.exit i, s') => bif Nat.beq i id then some (.normal, s') else some (.exit i, s')
  | r => r
 | .scope c, s => match ev P sp N n c s with
  | some (.goto _, _) => none
  | r => r
 | .loop c, s => loopE (ev P sp N n c) N s
 | .exit id, s => some (.exit id, s)
 | .ret, s => some (.ret, s)
 | _, _ => none

theorem loopE_ok {n : Nat} {X : PX} {c : Code} {g : CS → Option (Exit × CS)} (hg : ∀ s e s', keysOk n s.env = true → g s = some (e, s') → keysOk n s'.env = true ∧ ∀ Q : Exit → PS → Prop, Q e (toPS n s') → pwp P X c Q (toPS n s)) :
  ∀ (k : Nat) (s : CS) (e : Exit) (s' : CS), keysOk n s.env = true → loopE g k s = some (e, s') → keysOk n s'.env = true ∧ ∀ Q : Exit → PS → Prop, Q e (toPS n s') → pwp P X (.loop c) Q (toPS n s)
 | 0, s, e, s', hk, h => by unfold loopE at h; cases h
 | k + 1, s, e, s', hk, h => by
  unfold loopE at h
  split at h
  ·rename_i s1 h1
   obtain ⟨k1, q1⟩ := hg s _ s1 hk h1
   obtain ⟨k2, q2⟩ := loopE_ok hg k (comp s1) e s' (dedE_keys _ _ k1) h
   refine ⟨k2, fun Q hQ => ?_⟩
   obtain ⟨A, S, μ, x0, hw, hb⟩ := q2 Q hQ
   rw [comp_ps] at hw
   refine ⟨Option A, fun x => match x with | none => toPS n s | some x => S x, fun x => match x with | none => μ x0 + 1 | some x => μ x, none, Weak.refl _ _, fun x => ?_⟩
   cases x with
   | none => exact q1 _ ⟨some x0, hw, Nat.lt_succ_self _⟩
   | some x => exact pwp_mono c (fun e σ hs => by
     cases e with
     | normal => obtain ⟨x', h1, h2⟩ := hs; exact ⟨some x', h1, h2⟩
     | _ => exact hs) _ (hb x)
  ·rename_i hne
   obtain ⟨k1, q1⟩ := hg s e s' hk h
   refine ⟨k1, fun Q hQ => ?_⟩
   refine ⟨Unit, fun _ => toPS n s, fun _ => 0, (), Weak.refl _ _, fun _ => q1 _ ?_⟩
   cases e with
   | normal => exact (hne s' h).elim
   | _ => exact hQ
theorem ev_ok {sp : Spec} (hsp : SpecOk P sp) {N n k : Nat} {b0 : Bool} : ∀ (c : Code) (s : CS) (e : Exit) (s' : CS), keysOk n s.env = true → ev P sp N n c s = some (e, s') → keysOk n s'.env = true ∧ ∀ Q : Exit → PS → Prop, Q e (toPS n s') → pwp P ⟨noY, k, b0⟩ c Q (toPS n s)
 | .skip, s, e, s', hk, h => by unfold ev at h; cases h; exact ⟨hk, fun Q h => h⟩
 | .label _, s, e, s', hk, h => by unfold ev at h; cases h; exact ⟨hk, fun Q h => h⟩
 | .region _ ops draw, s, e, s', hk, h => by
  unfold ev at h
  split at h
  ·rename_i s1 fs h1
   cases hd : (!draw || drawOk ops fs) with
   | false => rw [hd] at h; cases h
   | true =>
    rw [hd] at h; cases h
    have hd' : draw = true → drawOk ops fs = true := fun e => by subst e; simpa using hd
    have hp := fun (Q : Exit → PS → Prop) (hQ : Q .normal (toPS n s')) => popsC_pops (P := P) hsp (n := n) (ops := ops) ops.toList 0 s [] hk (by simp) (popsE_C (K := fun s2 fs2 => s2 = s' ∧ fs2 = fs) (Z := fun _ _ => False) _ _ _ _ _ h1 ⟨rfl, rfl⟩)
    have hkey : keysOk n s'.env = true := popsE_key ops.toList s [] s' fs hk h1
    refine ⟨hkey, fun Q hQ => ?_⟩
    show popsX P noY ops (List.range ops.size) (toPS n s) [] _ _
    rw [List.range_eq_range']
    refine popsX_mono (fun σ fs' hs => ?_) (fun V σ hs => ?_) _ _ _ (by simpa using hp Q hQ)
    case refine_2 => obtain ⟨_, _, _, hz⟩ := hs
    obtain ⟨s2, rfl, _, rfl, rfl⟩ := hs
    exact ⟨hd', hQ⟩
  ·cases h
 | .seq a b, s, e, s', hk, h => by
  unfold ev at h
  split at h
  ·rename_i s1 h1
   obtain ⟨k1, q1⟩ := ev_ok hsp a s _ s1 hk h1
   obtain ⟨k2, q2⟩ := ev_ok hsp b s1 e s' k1 h
   exact ⟨k2, fun Q hQ => q1 _ (q2 Q hQ)⟩
  ·rename_i hne
   obtain ⟨k1, q1⟩ := ev_ok hsp a s e s' hk h
   refine ⟨k1, fun Q hQ => q1 _ ?_⟩
   cases e with
   | normal => exact (hne s' h).elim
   | _ => exact hQ
 | .cond c a b, s, e, s', hk, h => by
  unfold ev at h
  rw [evalB_eq] at h
  split at h
  ·rename_i hc
   obtain ⟨k1, q1⟩ := ev_ok hsp a s e s' hk h
   exact ⟨k1, fun Q hQ => ⟨true, by rw [toPS_eval hk]; exact hc, fun _ => q1 Q hQ, fun e => by cases e⟩⟩
  ·rename_i hc
   obtain ⟨k1, q1⟩ := ev_ok hsp b s e s' hk h
   exact ⟨k1, fun Q hQ => ⟨false, by rw [toPS_eval hk]; exact hc, fun e => (by cases e), fun _ => q1 Q hQ⟩⟩
  ·cases h
 | .block id c, s, e, s', hk, h => by
  unfold ev at h
  split at h
  ·rename_i i s1 h1
   obtain ⟨k1, q1⟩ := ev_ok hsp c s _ s1 hk h1
   cases hb : Nat.beq i id with
   | true =>
    rw [hb] at h; cases h
    have : i = id := Nat.eq_of_beq_eq_true hb
    exact ⟨k1, fun Q hQ => q1 _ (by show (if i = id then _ else _); rw [if_pos this]; exact hQ)⟩
   | false =>
    rw [hb] at h; cases h
    have : ¬ i = id := fun e => by rw [e] at hb; simp at hb
    exact ⟨k1, fun Q hQ => q1 _ (by show (if i = id then _ else _); rw [if_neg this]; exact hQ)⟩
  ·rename_i hne
   obtain ⟨k1, q1⟩ := ev_ok hsp c s e s' hk h
   refine ⟨k1, fun Q hQ => q1 _ ?_⟩
   cases e with
   | exit i => exact (hne i s' h).elim
   | _ => exact hQ
 | .scope c, s, e, s', hk, h => by
  unfold ev at h
  split at h
  ·cases h
  ·rename_i hne
   obtain ⟨k1, q1⟩ := ev_ok hsp c s e s' hk h
   refine ⟨k1, fun Q hQ => q1 _ ?_⟩
   cases e with
   | goto i => exact (hne i s' h).elim
   | _ => exact hQ
 | .loop c, s, e, s', hk, h => by
  unfold ev at h
  exact loopE_ok (fun s e s' hk h => ev_ok hsp c s e s' hk h) N s e s' hk h
 | .exit id, s, e, s', hk, h => by unfold ev at h; cases h; exact ⟨hk, fun Q h => h⟩
 | .ret, s, e, s', hk, h => by unfold ev at h; cases h; exact ⟨hk, fun Q h => h⟩
 | .rangeFunc .., s, e, s', hk, h => by unfold ev at h; cases h
 | .goto .., s, e, s', hk, h => by unfold ev at h; cases h
 | .refuse .., s, e, s', hk, h => by unfold ev at h; cases h

def endE : Exit → Bool
 | .normal | .ret => true
 | _ => false
noncomputable def evP (P : Program) (sp : Spec) (N : Nat) (f : FuncId) (al : List TV) : Option TV :=
 match P.funcs[f]? with
 | some fn => match fn.body with
  | some c => bif !(fn.name == "runtime.NumGoroutine") && Nat.ble al.length fn.ntmps then
    match ev P sp N fn.ntmps c { env := argsE (al.map .t) 0, heap := [] } with
    | some (e, s) => bif endE e && Nat.beq (cntL s.heap) 0 && Nat.beq (cntL (frzC P fn.results.toList s).heap) 0 then
      match resC P fn.results.toList (frzC P fn.results.toList s) with
      | some (.t r) => some r
      | _ => none
     else none
    | none => none
   else none
  | none => none
 | none => none
noncomputable def evH (P : Program) (sp : Spec) (N : Nat) (f : FuncId) (al : List PV) (hl : List PO) : Option (PV × List PO) :=
 match P.funcs[f]? with
 | some fn => match fn.body with
  | some c => bif !(fn.name == "runtime.NumGoroutine") && Nat.ble al.length fn.ntmps then
    match ev P sp N fn.ntmps c { env := argsE al 0, heap := hl } with
    | some (e, s) => bif endE e && Nat.ble hl.length s.heap.length && s.heap.all (PO.under s.heap.length) then
      match resC P fn.results.toList s with
      | some v => bif v.under s.heap.length then some (v, s.heap) else none
      | none => none
     else none
    | none => none
   else none
  | none => none
 | none => none

theorem pcalls_pwp (hm : P.follows .mixedOrders = true) {f : FuncId} {fn : Func} {c : Code} {args : List TV} {r : TV} (hf : P.funcs[f]? = some fn) (hb : fn.body = some c) (hname : (fn.name == "runtime.NumGoroutine") = false)
  (hn : args.length ≤ fn.ntmps) (hw : pwp P ⟨noY, 0, false⟩ c (liftC fn.ntmps (bodyC P fn.results.toList r)) (toPS fn.ntmps { env := argsE (args.map .t) 0, heap := [] })) : PCalls P f args r := by
 have h0 : noH = getL [] := by funext i; simp [noH, getL]
 refine hcalls_of (k := 0) hm hf hb hname (fun _ _ => rfl) (by rw [h0]; exact start_weak (by simpa using hn)) (pwp_mono c (fun e σ hs => ?_) _ hw)
 obtain ⟨s', rfl, hk', hq⟩ := hs
 have fin : resC P fn.results.toList (frzC P fn.results.toList s') = some (.t r) ∧ cntL s'.heap = 0 ∧ cntL (frzC P fn.results.toList s').heap = 0 → ∃ s1, Weak P 0 (toPS fn.ntmps s') s1 ∧ ∃ p, resO P fn.results.toList s1 = some p ∧ Weak P 0 ⟨[p], s1.heap⟩ ⟨[.t r], noH⟩ := fun hq => by
  refine ⟨_, frzC_weak (rs := fn.results.toList) (by rw [hq.2.1, hq.2.2]), .t r, (resC_eq (frzC_keys hk')).trans hq.1, weak_of (m := 0) (Nat.le_refl _) rfl (fun i p p' hp hp' => ?_) (fun id hid => by omega) (fun _ _ => rfl) ?_⟩
  ·rw [hp] at hp'; cases hp'
   cases i with
   | zero => simp at hp; subst hp; exact ⟨.inr (.inl rfl), rfl⟩
   | succ i => simp at hp
  ·show cntOf noH = cntOf (getL (frzC P fn.results.toList s').heap)
   rw [cntL_eq, hq.2.2]; rfl
 cases e with
 | normal => exact fin hq
 | ret => exact fin hq
 | _ => exact hq.elim
theorem hcalls_pwp (hm : P.follows .mixedOrders = true) {f : FuncId} {fn : Func} {c : Code} {al : List PV} {hl hl' : List PO} {v : PV} (hf : P.funcs[f]? = some fn) (hb : fn.body = some c) (hname : (fn.name == "runtime.NumGoroutine") = false)
  (hn : al.length ≤ fn.ntmps) (hw : pwp P ⟨noY, hl.length, false⟩ c (liftC fn.ntmps (bodyH P hl.length fn.results.toList v hl')) (toPS fn.ntmps { env := argsE al 0, heap := hl })) : HCalls P f al (getL hl) v (getL hl') := by
 refine hcalls_of (k := hl.length) hm hf hb hname (fun id hid => getL_out hid) (start_weak hn) (pwp_mono c (fun e σ hs => ?_) _ hw)
 obtain ⟨s', rfl, hk', hq⟩ := hs
 have fin : (∃ p, resC P fn.results.toList s' = some p ∧ cellW hl' p v ∧ v.under hl'.length = true ∧ heapW hl' s'.heap hl' ∧ hl'.all (PO.under hl'.length) = true ∧ hl.length ≤ hl'.length ∧ cntL hl' = cntL s'.heap) →
   ∃ s1, Weak P hl.length (toPS fn.ntmps s') s1 ∧ ∃ p, resO P fn.results.toList s1 = some p ∧ Weak P hl.length ⟨[p], s1.heap⟩ ⟨[v], getL hl'⟩ := by
  rintro ⟨p, h1, h2, h3, h4, h5, h6, h7⟩
  refine ⟨_, Weak.refl _ _, p, (resC_eq hk').trans h1, weak_of (m := hl'.length) h6 rfl (fun i q q' hq hq' => ?_) (fun id hid => ⟨heapW_le h4 id hid, ?_⟩) (fun id hid => getL_out hid) (by show cntOf (getL hl') = cntOf (getL s'.heap); rw [cntL_eq, cntL_eq, h7])⟩
  ·cases i with
   | zero => simp at hq hq'; subst hq; subst hq'; exact ⟨cellW_le h2, h3⟩
   | succ i => simp at hq
  ·rw [List.all_eq_true] at h5
   refine h5 _ ?_
   show hl'.getD id .res ∈ hl'
   rw [List.getD_eq_getElem?_getD, List.getElem?_eq_getElem hid]; exact List.getElem_mem hid
 cases e with
 | normal => exact fin hq
 | ret => exact fin hq
 | _ => exact hq.elim
theorem cellW_refl (l : List PO) (p : PV) : cellW l p p := by
 cases p with
 | cons b x q =>
  show bif (PV.cons b x q).ownIn then PV.cons b x q = .cons b x q else (PV.cons b x q).rlx = .cons b x q
  cases hb : (PV.cons b x q).ownIn with
  | true => rfl
  | false => exact PV.rlx_id hb
 | _ => simp [cellW, PV.toT]
theorem cellsW_refl (l : List PO) : ∀ cs : List PV, cellsW l cs cs
 | [] => trivial
 | c :: cs => ⟨cellW_refl l c, cellsW_refl l cs⟩
theorem objW_refl (l : List PO) (o : PO) : objW l o o := by
 cases o <;> simp [objW, cellsW_refl]
theorem heapW_refl (hp : List PO) : ∀ l : List PO, heapW hp l l
 | [] => by unfold heapW; trivial
 | o :: l => ⟨objW_refl hp o, heapW_refl hp l⟩

theorem evP_ok (hm : P.follows .mixedOrders = true) {sp : Spec} (hsp : SpecOk P sp) {N : Nat} {f : FuncId} {al : List TV} {r : TV} (h : evP P sp N f al = some r) : PCalls P f al r := by
 unfold evP at h
 split at h
 ·rename_i fn hf
  split at h
  ·rename_i c hc
   cases h1 : (!(fn.name == "runtime.NumGoroutine") && Nat.ble al.length fn.ntmps) with
   | false => rw [h1] at h; cases h
   | true =>
    rw [h1] at h; simp only [cond_true] at h
    simp only [Bool.and_eq_true, Bool.not_eq_true'] at h1
    have hn : al.length ≤ fn.ntmps := Nat.le_of_ble_eq_true h1.2
    split at h
    ·rename_i e s he
     cases h2 : (endE e && Nat.beq (cntL s.heap) 0 && Nat.beq (cntL (frzC P fn.results.toList s).heap) 0) with
     | false => rw [h2] at h; cases h
     | true =>
      rw [h2] at h; simp only [cond_true] at h
      simp only [Bool.and_eq_true] at h2
      obtain ⟨⟨h3, h4⟩, h5⟩ := h2
      have h4 : cntL s.heap = 0 := by simpa using h4
      have h5 : cntL (frzC P fn.results.toList s).heap = 0 := by simpa using h5
      split at h
      ·rename_i r' hr
       cases h
       obtain ⟨k1, q1⟩ := ev_ok (k := 0) (b0 := false) hsp c _ e s (argsE_keys _ 0 _ (by simpa using hn)) he
       refine pcalls_pwp hm hf hc h1.1 hn (q1 _ ⟨s, rfl, k1, ?_⟩)
       cases e with
       | normal => exact ⟨hr, h4, h5⟩
       | ret => exact ⟨hr, h4, h5⟩
       | _ => cases h3
      ·cases h
    ·cases h
  ·cases h
 ·cases h
theorem evH_ok (hm : P.follows .mixedOrders = true) {sp : Spec} (hsp : SpecOk P sp) {N : Nat} {f : FuncId} {al : List PV} {hl hl' : List PO} {v : PV} (h : evH P sp N f al hl = some (v, hl')) : HCalls P f al (getL hl) v (getL hl') := by
 unfold evH at h
 split at h
 ·rename_i fn hf
  split at h
  ·rename_i c hc
   cases h1 : (!(fn.name == "runtime.NumGoroutine") && Nat.ble al.length fn.ntmps) with
   | false => rw [h1] at h; cases h
   | true =>
    rw [h1] at h; simp only [cond_true] at h
    simp only [Bool.and_eq_true, Bool.not_eq_true'] at h1
    have hn : al.length ≤ fn.ntmps := Nat.le_of_ble_eq_true h1.2
    split at h
    ·rename_i e s he
     cases h2 : (endE e && Nat.ble hl.length s.heap.length && s.heap.all (PO.under s.heap.length)) with
     | false => rw [h2] at h; cases h
     | true =>
      rw [h2] at h; simp only [cond_true] at h
      simp only [Bool.and_eq_true] at h2
      obtain ⟨⟨h3, h4⟩, h5⟩ := h2
      split at h
      ·rename_i v' hr
       cases h6 : v'.under s.heap.length with
       | false => rw [h6] at h; cases h
       | true =>
        rw [h6] at h; cases h
        obtain ⟨k1, q1⟩ := ev_ok (k := hl.length) (b0 := false) hsp c _ e s (argsE_keys _ 0 _ (by omega)) he
        refine hcalls_pwp hm hf hc h1.1 hn (q1 _ ⟨s, rfl, k1, ?_⟩)
        have fin : ∃ p, resC P fn.results.toList s = some p ∧ cellW s.heap p v ∧ v.under s.heap.length = true ∧ heapW s.heap s.heap s.heap ∧ s.heap.all (PO.under s.heap.length) = true ∧ hl.length ≤ s.heap.length ∧ cntL s.heap = cntL s.heap :=
         ⟨v, hr, cellW_refl _ _, h6, heapW_refl _ _, h5, Nat.le_of_ble_eq_true h4, rfl⟩
        cases e with
        | normal => exact fin
        | ret => exact fin
        | _ => cases h3
      ·cases h
    ·cases h
  ·cases h
 ·cases h

end Go.Pm

/- Part QmFz. -/
namespace Go.Pm
open Go Go.RowKit
def Spec.frz (sp : Spec) : Spec := { sp with fz := fun _ => true }
theorem Spec.frz_ok {P : Program} {sp : Spec} (h : SpecOk P sp) : SpecOk P sp.frz := ⟨h.1, h.2⟩
section
variable (f : FuncId) (sp : Spec) (al : List TV) (ps : List PV) (hl : List PO) (t : TypeId) (Y : YS)
@[go_sem] theorem frz_p : sp.frz.p f al = sp.p f al := rfl
@[go_sem] theorem frz_h : sp.frz.h f ps hl = sp.h f ps hl := rfl
@[go_sem] theorem frz_y : sp.frz.y Y f ps hl = sp.y Y f ps hl := rfl
@[go_sem] theorem frz_fz : sp.frz.fz f = true := rfl
@[go_sem] theorem frz_pn : sp.frz.pn f ps hl = sp.pn f ps hl := rfl
@[go_sem] theorem frz_fr : sp.frz.fr f = sp.fr f := rfl
@[go_sem] theorem frz_yf : sp.frz.yf f = sp.yf f := rfl
@[go_sem] theorem frz_gd : sp.frz.gd = sp.gd := rfl
@[go_sem] theorem frz_mu : sp.frz.mu t = sp.mu t := rfl
@[go_sem] theorem frz_nf : sp.frz.nf t = sp.nf t := rfl
end
def Spec.gdt (sp : Spec) : Spec := { sp with gd := true }
theorem Spec.gdt_ok {P : Program} {sp : Spec} (h : SpecOk P sp) : SpecOk P sp.gdt := ⟨h.1, h.2⟩
section
variable (f : FuncId) (sp : Spec) (al : List TV) (ps : List PV) (hl : List PO) (t : TypeId) (Y : YS)
@[go_sem] theorem gdt_p : sp.gdt.p f al = sp.p f al := rfl
@[go_sem] theorem gdt_h : sp.gdt.h f ps hl = sp.h f ps hl := rfl
@[go_sem] theorem gdt_y : sp.gdt.y Y f ps hl = sp.y Y f ps hl := rfl
@[go_sem] theorem gdt_fz : sp.gdt.fz f = sp.fz f := rfl
@[go_sem] theorem gdt_pn : sp.gdt.pn f ps hl = sp.pn f ps hl := rfl
@[go_sem] theorem gdt_fr : sp.gdt.fr f = sp.fr f := rfl
@[go_sem] theorem gdt_yf : sp.gdt.yf f = sp.yf f := rfl
@[go_sem] theorem gdt_gd : sp.gdt.gd = true := rfl
@[go_sem] theorem gdt_mu : sp.gdt.mu t = sp.mu t := rfl
@[go_sem] theorem gdt_nf : sp.gdt.nf t = sp.nf t := rfl
end
end Go.Pm

/- Part QmSh. -/
namespace Go.Pm
open Go Go.RowKit
open Classical in
noncomputable def oneP (a0 : List TV) (r0 : TV) : List TV → Option TV := fun a => if a = a0 then some r0 else none
theorem oneP_ok {P : Program} {f : FuncId} {a0 : List TV} {r0 : TV} (h : PCalls P f a0 r0) : ∀ a r, oneP a0 r0 a = some r → PCalls P f a r := by
 intro a r e
 unfold oneP at e
 split at e
 ·rename_i hc; subst hc; cases e; exact h
 ·cases e
open Classical in
@[go_sem] theorem oneP_eq (a0 : List TV) (r0 : TV) (a : List TV) : oneP a0 r0 a = if a = a0 then some r0 else none := rfl
open Classical in
noncomputable def oneHs (ps0 : List PV) (hl0 : List PO) (r : PV × List PO) : List PV → List PO → Option (PV × List PO) := fun ps hl => if ps = ps0 ∧ hl = hl0 then some r else none
open Classical in
@[go_sem] theorem oneHs_eq (ps0 : List PV) (hl0 : List PO) (r : PV × List PO) (ps : List PV) (hl : List PO) : oneHs ps0 hl0 r ps hl = if ps = ps0 ∧ hl = hl0 then some r else none := rfl
open Classical in
noncomputable def manyP : List (List TV × TV) → List TV → Option TV
 | [], _ => none
 | p :: l, a => if a = p.1 then some p.2 else manyP l a
@[go_sem] theorem manyP_nil (a : List TV) : manyP [] a = none := by unfold manyP; rfl
open Classical in
@[go_sem] theorem manyP_cons (a0 : List TV) (r0 : TV) (l : List (List TV × TV)) (a : List TV) : manyP ((a0, r0) :: l) a = if a = a0 then some r0 else manyP l a := by rw [manyP]
end Go.Pm
