/- What the claim leans on, text 4. -/
import Derived.RecoverIn
import Derived.Test.YtdkboibnokipaaaDoorC3
set_option linter.unusedSimpArgs false
set_option linter.unusedVariables false

/- Part QmDf. -/
namespace Go.Pm
open Go Go.RowKit

variable {P : Program} {C : Cx} {F F' : Fz} {φ φ' : Nat → Nat × Nat} {h h' : Hp} {w w' : World}

def modeOf : Option Value → FrameMode
 | none => .returning
 | some V => .panicking [{ v := V, recovered := false }]
def recOf : Option Value → Value
 | none => .nilIface
 | some V => V
def HDef (P : Program) (g : FuncId) (as : List PV) (h : Hp) (m : Option Value) (h' : Hp) : Prop :=
 FnOk P g ∧ ∀ (w : World) (F : Fz) (φ : Nat → Nat × Nat) (us : List Value), RH P (loc w F φ h) F φ h w → RPs F φ h as us →
  CallsDIn (Fr none) 0 P g us.toArray (modeOf m) w fun e u' w' => ∃ v F' φ', e = .returned v ∧ settle u' = .returning ∧ RH P (loc w F φ h) F' φ' h' w'

theorem run_recover {a : Act} {o : Oper} (ho : o.op = .call { callee := .builtin .recover, args := #[], argTypes := #[] }) : (execOp a.eval o).run P w = .ok .recover w := by
 simp only [execOp, ho, resolve, invoke]
 rfl
theorem hdef_of (hm : P.follows .mixedOrders = true) {g : FuncId} {fn : Func} {rid : Nat} {oA oB : Oper} {c : Code} {as : List PV} {m : Option Value} {x : TV} {dA dB k : Nat} (hf : P.funcs[g]? = some fn) (hb : fn.body = some (.seq (.region rid #[oA, oB] false) c)) (hname : (fn.name == "runtime.NumGoroutine") = false)
  (hA : oA.op = .call { callee := .builtin .recover, args := #[], argTypes := #[] }) (hAg : oA.guard = none) (hAd : oA.dst = some dA) (hB : oB.op = .assign (.tmp dA)) (hBg : oB.guard = none) (hBd : oB.dst = some dB) (hlt : dA < fn.ntmps) (hlen : as.length ≤ fn.ntmps) (hx : ∀ F, RepT F x (recOf m)) (hres : fn.results.toList = [])
  (hk : ∀ id, k ≤ id → h id = .res) {σ0 : PS} (hw : Weak P k ⟨((as ++ List.replicate (fn.ntmps - as.length) pv_undef).set dA (.t x)).set dB (.t x), h⟩ σ0)
  (hp : pwp P ⟨noY, k, true⟩ c (fun e s => (e = .normal ∨ e = .ret) ∧ Weak P k ⟨[], s.heap⟩ ⟨[], h'⟩) σ0) : HDef P g as h m h' := by
 refine ⟨⟨fn, hf, by rw [hb]; rfl, hname⟩, fun w F φ us H hus => callsDIn_of_wpSIn hf hb trivial fun c₀ cs hu => ?_⟩
 refine wpSIn_seq (wpSIn_region ?_)
 let C : Cx := { loc w F φ h with nm := true }
 have hCr : RH P C F φ h w := ⟨H.agree, H.more, H.news, H.objs, H.inj, H.high, H.bel, H.step, H.glob⟩
 have hst := JTrue.stable C.w0.heap.size C.E
 obtain ⟨tm, htm⟩ : ∃ tm, tm = (us.toArray ++ Array.replicate (fn.ntmps - us.toArray.size) undef) := ⟨_, rfl⟩
 have hstart := RTm.start hus fn.ntmps
 rw [← htm] at hstart ⊢
 have hR : R P C JTrue ⟨((as ++ List.replicate (fn.ntmps - as.length) pv_undef).set dA (.t x)).set dB (.t x), h⟩ { tmps := (tm.setIfInBounds dA (recOf m)).setIfInBounds dB (recOf m), defers := [] } w :=
  ⟨F, φ, fun _ => False, hCr, (hstart.put dA (v := .t x) (hx F)).put dB (v := .t x) (hx F), fun b hb => hb.elim, ⟨[], rfl, ⟨List.nodup_nil, fun _ => rfl⟩, fun d hd => by cases hd⟩, rfl⟩
 have hwalk := pwp_sound hm c ⟨noY, k, true⟩ _ none 0 C JTrue _ _ w noY_ok hst hk (fun e => by cases e) (fun e => by cases e) hp (hw _ _ _ _ hst hk hR)
 have hread : ∀ v : Value, (tm.setIfInBounds dA v).getD dA undef = v := by
  intro v
  have hsz : dA < tm.size := by
   have : tm.size = fn.ntmps := by rw [htm]; simp [hus.1]; omega
   omega
  simp [Array.getD, hsz]
 have fin : ∀ (u' : FrameMode), settle u' = .returning → Code.wpSIn (Fr none) 0 P c (bodyPostS P fn c₀ cs fun e u' w' => ∃ v F' φ', e = .returned v ∧ settle u' = .returning ∧ RH P (loc w F φ h) F' φ' h' w') { tmps := (tm.setIfInBounds dA (recOf m)).setIfInBounds dB (recOf m), defers := [] } ({ c₀ with mode := u' } :: cs) w := by
  intro u' hu'
  refine wpSIn_of_wpIn rfl (wpIn_mono hwalk fun e a' w' he => ?_)
  obtain ⟨s, ⟨hex, hweak⟩, hR'⟩ := he
  obtain ⟨F2, φ2, G2, H2, hr2, hid2, ⟨ms, hms, hmn, hmd⟩, hJ2⟩ := id hR'
  have hms0 := hmn.2 rfl
  subst hms0
  have hdef : a'.defers = [] := hms
  obtain ⟨v, hv, _⟩ := run_results (fn := fn) (r := .t (.tup [])) H2 hr2 (by rw [hres]; rfl)
  obtain ⟨F3, φ3, G3, H3, _⟩ := hweak _ _ _ _ hst hk (R_heap hR')
  have H3' : RH P (loc w F φ h) F3 φ3 h' w' := ⟨H3.agree, H3.more, H3.news, H3.objs, H3.inj, H3.high, H3.bel, H3.step, H3.glob⟩
  rcases hex with rfl | rfl
  ·exact ⟨hdef, u', rfl, v, hv, v, F3, φ3, rfl, hu', H3'⟩
  ·exact ⟨hdef, u', rfl, v, hv, v, F3, φ3, rfl, hu', H3'⟩
 have h2 : List.range (#[oA, oB] : Array Oper).size = [0, 1] := rfl
 rw [h2]
 have wA : Region.wanted oA (yielded #[oA, oB] tm) = true := by unfold Region.wanted; rw [hAg]
 have wB : ∀ t, Region.wanted oB (yielded #[oA, oB] t) = true := fun t => by unfold Region.wanted; rw [hBg]
 unfold wpOpsSIn
 have g0 : (#[oA, oB] : Array Oper)[0]? = some oA := rfl
 simp only [g0]
 refine ⟨fun _ _ => trivial, ?_⟩
 rw [if_pos wA, run_recover hA]
 have step2 : ∀ (cs' : List Frame), Code.wpSIn (Fr none) 0 P c (bodyPostS P fn c₀ cs fun e u' w' => ∃ v F' φ', e = .returned v ∧ settle u' = .returning ∧ RH P (loc w F φ h) F' φ' h' w') { tmps := (tm.setIfInBounds dA (recOf m)).setIfInBounds dB (recOf m), defers := [] } cs' w →
   wpOpsSIn (Fr none) 0 P #[oA, oB] (Exit.thenS (Code.wpSIn (Fr none) 0 P c (bodyPostS P fn c₀ cs fun e u' w' => ∃ v F' φ', e = .returned v ∧ settle u' = .returning ∧ RH P (loc w F φ h) F' φ' h' w')) (bodyPostS P fn c₀ cs fun e u' w' => ∃ v F' φ', e = .returned v ∧ settle u' = .returning ∧ RH P (loc w F φ h) F' φ' h' w')) [1] (({ tmps := tm, defers := [] } : Act).put oA.dst (recOf m)) cs' w := by
  intro cs' hc
  unfold wpOpsSIn
  have g1 : (#[oA, oB] : Array Oper)[1]? = some oB := rfl
  simp only [g1]
  refine ⟨fun _ _ => trivial, ?_⟩
  rw [if_pos (wB _)]
  have e1 : (execOp (({ tmps := tm, defers := [] } : Act).put oA.dst (recOf m)).eval oB).run P w = .ok (.value (recOf m)) w := by
   simp only [execOp, hB, hAd, Act.put, Act.eval, Sem.run_pure]
   rw [hread]
  rw [e1]
  simp only
  unfold wpOpsSIn
  simp only [Exit.thenS, hAd, hBd, Act.put]
  exact hc
 cases m with
 | none =>
  have hrec : recoverD (c₀ :: cs) = none := by simp [recoverD, hu, modeOf]
  simp only [hrec]
  refine step2 (c₀ :: cs) ?_
  have := fin .returning rfl
  have hc0 : ({ c₀ with mode := FrameMode.returning } : Frame) = c₀ := by
   have hu' : c₀.mode = FrameMode.returning := hu
   rw [← hu']
  rw [hc0] at this
  exact this
 | some V =>
  have hrec : recoverD (c₀ :: cs) = some (V, { c₀ with mode := .panicking [{ v := V, recovered := true }] } :: cs) := by simp [recoverD, hu, modeOf]
  simp only [hrec]
  exact step2 _ (fin _ rfl)
def bodyDf (P : Program) (k k2 : Nat) (g : FuncId) (ids : List Nat) (rs : List ResultVar) (v : PV) (h' : Hp) : Exit → PS → Prop
 | .normal, s | .ret, s => ∃ s1 h1, Weak P k2 s s1 ∧ (∀ id ∈ ids, isBox s1.heap id) ∧ HDef P g (ids.map fun id => .ptr id 0) s1.heap none h1 ∧ ∃ p, resO P rs ⟨s1.tmps, h1⟩ = some p ∧ Weak P k ⟨[p], h1⟩ ⟨[v], h'⟩
 | .panic ch, s => ∃ V s1 h1, ch = [{ v := V, recovered := false }] ∧ Weak P k2 s s1 ∧ (∀ id ∈ ids, isBox s1.heap id) ∧ HDef P g (ids.map fun id => .ptr id 0) s1.heap (some V) h1 ∧ ∃ p, resO P rs ⟨s1.tmps, h1⟩ = some p ∧ Weak P k ⟨[p], h1⟩ ⟨[v], h'⟩
 | _, _ => False
theorem RH.to (H : RH P C F φ h w) {ds : List Deferred} {nm : Bool} : RH P ⟨C.w0, C.F0, C.h0, C.φ0, C.E, ds, nm⟩ F φ h w := ⟨H.agree, H.more, H.news, H.objs, H.inj, H.high, H.bel, H.step, H.glob⟩
theorem hcallsD_of (hm : P.follows .mixedOrders = true) {f : FuncId} {fn : Func} {rid : Nat} {o1 o2 : Oper} {c0 c1 : Code} {as : List PV} {v : PV} {k k2 d : Nat} {g : FuncId} {ids : List Nat} (hf : P.funcs[f]? = some fn) (hb : fn.body = some (.seq c0 (.seq (.region rid #[o1, o2] false) c1))) (hname : (fn.name == "runtime.NumGoroutine") = false)
  (h2 : o2.op = .defer { callee := .value (.tmp d), args := #[], argTypes := #[] }) (h2g : o2.guard = none) (h2d : o2.dst = none)
  (hk : ∀ id, k ≤ id → h id = .res) {σ0 : PS} (hw : Weak P k ⟨as ++ List.replicate (fn.ntmps - as.length) pv_undef, h⟩ σ0)
  (hp : pwp P ⟨noY, k, true⟩ c0 (fun e s => e = .normal ∧ pops P noY #[o1, o2] [0] s [] fun s2 _ => ∃ s3, Weak P k s2 s3 ∧ s3.eval (.tmp d) = .fnc g ids ∧ (∀ id, k2 ≤ id → s3.heap id = .res) ∧ pwp P ⟨noY, k2, true⟩ c1 (bodyDf P k k2 g ids fn.results.toList v h') s3) σ0) : HCalls P f as h v h' := by
 refine ⟨⟨fn, hf, by rw [hb]; rfl, hname⟩, fun w F φ us H hus => calls_of hf hb ?_⟩
 let C : Cx := { loc w F φ h with nm := true }
 have hR : R P C JTrue ⟨as ++ List.replicate (fn.ntmps - as.length) pv_undef, h⟩ { tmps := us.toArray ++ Array.replicate (fn.ntmps - us.toArray.size) undef, defers := [] } w :=
  ⟨F, φ, fun _ => False, H.to, RTm.start hus _, fun b hb => hb.elim, ⟨[], rfl, ⟨List.nodup_nil, fun _ => rfl⟩, fun d hd => by cases hd⟩, rfl⟩
 have hst := JTrue.stable C.w0.heap.size C.E
 refine wpIn_seq (wpIn_mono (pwp_sound hm c0 ⟨noY, k, true⟩ _ none 0 C JTrue _ _ w noY_ok hst hk (fun e => by cases e) (fun e => by cases e) hp (hw _ _ _ _ hst hk hR)) fun e a1 w1 he => ?_)
 obtain ⟨s, ⟨rfl, hs⟩, hR1⟩ := he
 show (Code.seq (.region rid #[o1, o2] false) c1).wpIn (Fr none) 0 P _ a1 w1
 refine wpIn_seq (wpIn_region ?_)
 have e0 : List.range (#[o1, o2] : Array Oper).size = [0, 1] := rfl
 rw [e0]
 obtain ⟨σ', fo, ⟨o, W, ho, hst'⟩, s3, hweak3, hfn, hk3, hwalk⟩ := hs
 refine wpOpsIn_congr 0 ho (step_sim noY_ok hst hst' hR1 fun a2 w2 hR2 => ?_)
 have hR3 := hweak3 _ _ _ _ hst hk hR2
 obtain ⟨F2, φ2, G2, H2, hr2, hid2, ⟨ms, hms, hmn, hmd⟩, hJ2⟩ := id hR3
 have hms0 := hmn.2 rfl
 subst hms0
 have hdef2 : a2.defers = [] := hms
 have hg2 := eval_rep H2.glob hr2 (.tmp d)
 rw [hfn] at hg2
 obtain ⟨hboxes, hu⟩ := hg2
 obtain ⟨ptrs, hptrs⟩ : ∃ ptrs, (ids.map fun id => Value.pointer (some ⟨(φ2 id).1, 0, none⟩)) = ptrs := ⟨_, rfl⟩
 rw [hptrs] at hu
 obtain ⟨D, hD⟩ : ∃ D : Deferred, D = { target := .fn (.func g) ptrs.toArray, args := #[] } := ⟨_, rfl⟩
 unfold wpOpsIn
 have g1 : (#[o1, o2] : Array Oper)[1]? = some o2 := rfl
 have wB : Region.wanted o2 (yielded #[o1, o2] a2.tmps) = true := by unfold Region.wanted; rw [h2g]
 simp only [g1]
 rw [if_pos wB]
 refine ⟨fun _ _ => trivial, ?_⟩
 have hrun : (o2.semAt (Fr none).round a2.eval).run P w2 = .ok (.defer D) w2 := by
  show (execOp a2.eval o2).run P w2 = _
  simp only [execOp, h2, resolve, hu]
  rw [hD]
  simp [Deferred.ofValue]
 rw [hrun]
 rw [Oper.uponIn_defer, h2d, hdef2]
 simp only [wpOpsIn, Exit.then, Act.put]
 let C1 : Cx := { loc w2 F2 φ2 s3.heap with ds := [D], nm := true }
 have hR4 : R P C1 JTrue s3 { tmps := a2.tmps, defers := [D] } w2 :=
  ⟨F2, φ2, fun _ => False, H2.here.to, hr2, fun b hb => hb.elim, ⟨[], rfl, ⟨List.nodup_nil, fun _ => rfl⟩, fun d hd => by cases hd⟩, rfl⟩
 have hst1 := JTrue.stable C1.w0.heap.size C1.E
 have hinv : ∀ w3, (invoke D.target D.args).run P w3 = (callFunc g ptrs.toArray).run P w3 := by
  intro w3; rw [hD]; simp [invoke]
 have fin : ∀ (m : Option Value) (s : PS) (a4 : Act) (w4 : World), R P C1 JTrue s a4 w4 → (∃ s1 h1, Weak P k2 s s1 ∧ (∀ id ∈ ids, isBox s1.heap id) ∧ HDef P g (ids.map fun id => .ptr id 0) s1.heap m h1 ∧ ∃ p, resO P fn.results.toList ⟨s1.tmps, h1⟩ = some p ∧ Weak P k ⟨[p], h1⟩ ⟨[v], h'⟩) →
   LeavesInM (Fr none) 0 P fn a4.tmps (fun e w' => ∃ u F' φ', e = .returned u ∧ RH P (loc w F φ h) F' φ' h' w' ∧ RepP F' φ' h' v u) a4.defers (modeOf m) w4 := by
  rintro m s a4 w4 hRs ⟨s1, h1, hweak, hbx, hdf, p, hres, hweakp⟩
  have hRs1 := hweak _ _ _ _ hst1 hk3 hRs
  obtain ⟨_, _, _, _, _, _, ⟨ms, hms, _⟩, _⟩ := id hRs1
  refine leavesM (C := C1) hst1 (by cases m <;> simp [modeOf]) (fun w5 hR5 => ?_) ms a4.defers w4 hms hRs1
  obtain ⟨F5, φ5, G5, H5, hr5, hid5, hm5, hJ5⟩ := hR5
  obtain ⟨⟨gn, hgf, hgb, hgn⟩, hdc⟩ := hdf
  have hcall : (callFunc g ptrs.toArray).run P w5 = .ok (.enter g ptrs.toArray) w5 := by
   simp only [callFunc, Sem.run_bind, run_program, Result.andThen_ok, hgf, hgn, hgb, Bool.false_eq_true, if_false, Sem.run_pure]
  have hp5 : RPs F5 φ5 s1.heap (ids.map fun id => .ptr id 0) ptrs := by
   rw [← hptrs]
   refine ⟨by simp, fun i q u hq hu => ?_⟩
   simp only [List.getElem?_map, Option.map_eq_some_iff] at hq hu
   obtain ⟨id, hid, rfl⟩ := hq
   obtain ⟨id', hid', rfl⟩ := hu
   rw [hid] at hid'; cases hid'
   have hmem := List.mem_of_getElem? hid
   have hst5 := (hboxes id hmem).step H5.step
   exact ⟨hbx id hmem, by rw [hst5.2]; rfl⟩
  have H5l : RH P (loc w2 F2 φ2 s3.heap) F5 φ5 s1.heap w5 := ⟨H5.agree, H5.more, H5.news, H5.objs, H5.inj, H5.high, H5.bel, H5.step, H5.glob⟩
  show LeavesInM (Fr none) 0 P fn a4.tmps _ [D] (modeOf m) w5
  refine ⟨by cases m <;> simp [modeOf], .inr ⟨(fun e => by cases e), .func g, ptrs.toArray, g, ptrs.toArray, by rw [hD], by rw [hinv]; exact hcall, fun _ _ => trivial, ?_⟩⟩
  have hcd := hdc w5 F5 φ5 ptrs H5l.here hp5
  refine ⟨hcd.1, fun c cs hmo hro => ?_⟩
  obtain ⟨e, u', w6, fr, ⟨vv, F6, φ6, rfl, hset, H6⟩, q1, q2, q3, q4⟩ := hcd.2 c cs hmo hro
  refine ⟨_, u', w6, fr, ?_, q1, q2, q3, q4⟩
  show LeavesInM (Fr none) 0 P fn a4.tmps _ [] (settle u') w6
  rw [hset]
  have H6C : RH P (loc w F φ h) F6 φ6 h1 w6 := ((show RH P (loc w F φ h) F2 φ2 s3.heap w2 from ⟨H2.agree, H2.more, H2.news, H2.objs, H2.inj, H2.high, H2.bel, H2.step, H2.glob⟩).trans H5l).trans H6
  obtain ⟨u, hu, ru⟩ := run_results (fn := fn) (σ := ⟨s1.tmps, h1⟩) H6C (hr5.step H6.more H6.step) hres
  have hR7 : R P (loc w F φ h) JTrue ⟨[p], h1⟩ { tmps := #[u], defers := [] } w6 :=
   ⟨F6, φ6, fun _ => False, H6C, ⟨rfl, fun i q u' h1 h2 => by
    cases i with
    | zero => simp at h1 h2; subst h1; subst h2; exact ru
    | succ i => simp at h1⟩, fun b hb => hb.elim, ⟨[], rfl, ⟨List.nodup_nil, fun _ => rfl⟩, fun d hd => by cases hd⟩, rfl⟩
  obtain ⟨F7, φ7, G7, H7, hr7, _⟩ := hweakp _ _ _ _ (JTrue.stable _ _) hk hR7
  exact ⟨u, hu, u, F7, φ7, rfl, H7, hr7.2 0 v u rfl rfl⟩
 refine wpIn_mono (pwp_sound hm c1 ⟨noY, k2, true⟩ _ none 0 C1 JTrue _ _ w2 noY_ok hst1 hk3 (fun e => by cases e) (fun e => by cases e) hwalk hR4) fun e a4 w4 he => ?_
 obtain ⟨s4, hs4, hR5⟩ := he
 cases e with
 | normal => exact fin none s4 a4 w4 hR5 hs4
 | ret => exact fin none s4 a4 w4 hR5 hs4
 | panic ch =>
  obtain ⟨V, s1, h1, rfl, hrest⟩ := hs4
  exact fin (some V) s4 a4 w4 hR5 ⟨s1, h1, hrest⟩
 | _ => exact hs4.elim

/-! ### Reckoned -/
theorem hp_weak {k : Nat} {s : CS} {hl' : List PO} {n : Nat} (h4 : heapW hl' s.heap hl') (h5 : hl'.all (PO.under hl'.length) = true) (h6 : k ≤ hl'.length) (h7 : cntL hl' = cntL s.heap) : Weak P k ⟨[], (toPS n s).heap⟩ ⟨[], getL hl'⟩ := by
 refine weak_of (m := hl'.length) h6 rfl (fun i q q' hq hq' => by simp at hq) (fun id hid => ⟨heapW_le h4 id hid, ?_⟩) (fun id hid => getL_out hid) (by show cntOf (getL hl') = cntOf (getL s.heap); rw [cntL_eq, cntL_eq, h7])
 rw [List.all_eq_true] at h5
 refine h5 _ ?_
 show hl'.getD id .res ∈ hl'
 rw [List.getD_eq_getElem?_getD, List.getElem?_eq_getElem hid]; exact List.getElem_mem hid
def bodyR (k : Nat) (hl' : List PO) : Exit → CS → Prop := fun e s => (e = .normal ∨ e = .ret) ∧ heapW hl' s.heap hl' ∧ hl'.all (PO.under hl'.length) = true ∧ k ≤ hl'.length ∧ cntL hl' = cntL s.heap
theorem hdef_by (hm : P.follows .mixedOrders = true) {sp : Spec} (hsp : SpecOk P sp) {g : FuncId} {fn : Func} {rid : Nat} {oA oB : Oper} {c : Code} {as : List PV} {m : Option Value} {x : TV} {dA dB : Nat} {hl hl' : List PO} (hf : P.funcs[g]? = some fn) (hb : fn.body = some (.seq (.region rid #[oA, oB] false) c)) (hname : (fn.name == "runtime.NumGoroutine") = false)
  (hA : oA.op = .call { callee := .builtin .recover, args := #[], argTypes := #[] }) (hAg : oA.guard = none) (hAd : oA.dst = some dA) (hB : oB.op = .assign (.tmp dA)) (hBg : oB.guard = none) (hBd : oB.dst = some dB) (hltA : dA < fn.ntmps) (hltB : dB < fn.ntmps) (hlen : as.length ≤ fn.ntmps) (hx : ∀ F, RepT F x (recOf m)) (hres : fn.results.toList = [])
  (h : pwpC P sp ⟨noY, hl.length, true⟩ fn.ntmps c (bodyR hl.length hl') { env := (dB, .t x) :: (dA, .t x) :: argsE as 0, heap := hl }) : HDef P g as (getL hl) m (getL hl') := by
 have hk : keysOk fn.ntmps ((dB, PV.t x) :: (dA, PV.t x) :: argsE as 0) = true := by
  have := argsE_keys as 0 fn.ntmps (by omega)
  simp only [keysOk, List.all_cons, Bool.and_eq_true, decide_eq_true_eq] at this ⊢
  exact ⟨hltB, hltA, this⟩
 have hw := pwpC_pwp hsp c _ _ { env := (dB, .t x) :: (dA, .t x) :: argsE as 0, heap := hl } hk h
 refine hdef_of (k := hl.length) hm hf hb hname hA hAg hAd hB hBg hBd hltA hlen hx hres (fun id hid => getL_out hid) ?_ (pwp_mono c (fun e σ hs => ?_) _ hw)
 ·have h1 := start_weak (P := P) (k := hl.length) (n := fn.ntmps) (as := as) (hl := hl) hlen
  rintro C J a w hst hk' ⟨F, φ, G, H, hr, hid, hmk, hJ⟩
  refine ⟨F, φ, G, H, ⟨?_, fun i p u hp hu => ?_⟩, hid, hmk, hJ⟩
  ·have := hr.1; simp [toPS] at this ⊢; omega
  ·simp only [toPS, List.getElem?_map, Option.map_eq_some_iff, range_get] at hp
   obtain ⟨j, hj, rfl⟩ := hp
   split at hj
   ·rename_i hin
    cases hj
    have hlenR : (as ++ List.replicate (fn.ntmps - as.length) pv_undef).length = fn.ntmps := by simp; omega
    by_cases eB : dB = i
    ·subst eB
     have := hr.2 dB (.t x) u (by rw [List.getElem?_set_self (by rw [List.length_set, hlenR]; exact hltB)]) hu
     unfold getA; rw [if_pos rfl]; exact this
    ·by_cases eA : dA = i
     ·subst eA
      have := hr.2 dA (.t x) u (by rw [List.getElem?_set_ne eB, List.getElem?_set_self (by rw [hlenR]; exact hltA)]) hu
      unfold getA; rw [if_neg eB]; unfold getA; rw [if_pos rfl]; exact this
     ·unfold getA; rw [if_neg eB]; unfold getA; rw [if_neg eA, argsE_get]
      simp only [Nat.zero_le, if_true, Nat.sub_zero]
      cases hxx : as[i]? with
      | none => trivial
      | some y =>
       refine hr.2 i y u ?_ hu
       have hlt := (List.getElem?_eq_some_iff.1 hxx).1
       rw [List.getElem?_set_ne eB, List.getElem?_set_ne eA, List.getElem?_append_left hlt, hxx]
   ·cases hj
 ·obtain ⟨s', rfl, hk', hex, h4, h5, h6, h7⟩ := hs
  exact ⟨hex, hp_weak h4 h5 h6 h7⟩

def endD (P : Program) (k k2 n : Nat) (g : FuncId) (ids : List Nat) (rs : List ResultVar) (v : PV) (hlf : List PO) (m : Option Value) (s : CS) : Prop :=
 ∃ (T : List (Nat × PV)) (hl1 hl2 : List PO), weakW k2 s ⟨T, hl1⟩ ∧ keysOk n T = true ∧ (∀ id ∈ ids, isBox (getL hl1) id) ∧ HDef P g (ids.map fun id => .ptr id 0) (getL hl1) m (getL hl2) ∧
  ∃ p, resC P rs ⟨T, hl2⟩ = some p ∧ cellW hlf p v ∧ v.under hlf.length = true ∧ heapW hlf hl2 hlf ∧ hlf.all (PO.under hlf.length) = true ∧ k ≤ hlf.length ∧ cntL hlf = cntL hl2
def bodyDC (P : Program) (k k2 n : Nat) (g : FuncId) (ids : List Nat) (rs : List ResultVar) (v : PV) (hlf : List PO) : Exit → CS → Prop
 | .normal, s | .ret, s => endD P k k2 n g ids rs v hlf none s
 | .panic ch, s => ∃ V, ch = [{ v := V, recovered := false }] ∧ endD P k k2 n g ids rs v hlf (some V) s
 | _, _ => False
theorem endD_of {k k2 n : Nat} {g : FuncId} {ids : List Nat} {rs : List ResultVar} {v : PV} {hlf : List PO} {m : Option Value} {s : CS} (h : endD P k k2 n g ids rs v hlf m s) :
  ∃ s1 h1, Weak P k2 (toPS n s) s1 ∧ (∀ id ∈ ids, isBox s1.heap id) ∧ HDef P g (ids.map fun id => .ptr id 0) s1.heap m h1 ∧ ∃ p, resO P rs ⟨s1.tmps, h1⟩ = some p ∧ Weak P k ⟨[p], h1⟩ ⟨[v], getL hlf⟩ := by
 obtain ⟨T, hl1, hl2, hw, hkT, hbx, hd, p, hres, h2, h3, h4, h5, h6, h7⟩ := h
 refine ⟨toPS n ⟨T, hl1⟩, getL hl2, weakW_weak hw, hbx, hd, p, ?_, weak_of (m := hlf.length) h6 rfl (fun i q q' hq hq' => ?_) (fun id hid => ⟨heapW_le h4 id hid, ?_⟩) (fun id hid => getL_out hid) (by show cntOf (getL hlf) = cntOf (getL hl2); rw [cntL_eq, cntL_eq, h7])⟩
 ·exact (resC_eq (s := ⟨T, hl2⟩) hkT).trans hres
 ·cases i with
  | zero => simp at hq hq'; subst hq; subst hq'; exact ⟨cellW_le h2, h3⟩
  | succ i => simp at hq
 ·rw [List.all_eq_true] at h5
  refine h5 _ ?_
  show hlf.getD id .res ∈ hlf
  rw [List.getD_eq_getElem?_getD, List.getElem?_eq_getElem hid]; exact List.getElem_mem hid
noncomputable def behindD (P : Program) (sp : Spec) (n k k2 d : Nat) (g : FuncId) (ids : List Nat) (rs : List ResultVar) (v : PV) (hlf : List PO) (c1 : Code) : CS → Foot → Prop := fun s2 _ => getA s2.env d = .fnc g ids ∧ s2.heap.length = k2 ∧ pwpC P sp ⟨noY, k2, true⟩ n c1 (bodyDC P k k2 n g ids rs v hlf) s2
noncomputable def aheadD (P : Program) (sp : Spec) (n k k2 d : Nat) (g : FuncId) (ids : List Nat) (rs : List ResultVar) (v : PV) (hlf : List PO) (o1 o2 : Oper) (c1 : Code) : Exit → CS → Prop
 | .normal, s => stepC P sp noY n #[o1, o2] o1 s (behindD P sp n k k2 d g ids rs v hlf c1) fun _ _ => False
 | _, _ => False
theorem hcallsD_by (hm : P.follows .mixedOrders = true) {sp : Spec} (hsp : SpecOk P sp) {f : FuncId} {fn : Func} {rid : Nat} {o1 o2 : Oper} {c0 c1 : Code} {as : List PV} {v : PV} {hl hlf : List PO} (k2 d : Nat) (g : FuncId) (ids : List Nat) (hf : P.funcs[f]? = some fn) (hb : fn.body = some (.seq c0 (.seq (.region rid #[o1, o2] false) c1))) (hname : (fn.name == "runtime.NumGoroutine") = false)
  (h2 : o2.op = .defer { callee := .value (.tmp d), args := #[], argTypes := #[] }) (h2g : o2.guard = none) (h2d : o2.dst = none) (hd : d < fn.ntmps) (hn : as.length ≤ fn.ntmps)
  (h : pwpC P sp ⟨noY, hl.length, true⟩ fn.ntmps c0 (aheadD P sp fn.ntmps hl.length k2 d g ids fn.results.toList v hlf o1 o2 c1) { env := argsE as 0, heap := hl }) : HCalls P f as (getL hl) v (getL hlf) := by
 have hk : keysOk fn.ntmps (argsE as 0) = true := argsE_keys _ 0 _ (by omega)
 have hw := pwpC_pwp hsp c0 _ _ { env := argsE as 0, heap := hl } hk h
 refine hcallsD_of (k := hl.length) (k2 := k2) (d := d) (g := g) (ids := ids) hm hf hb hname h2 h2g h2d (fun id hid => getL_out hid) (start_weak hn) (pwp_mono c0 (fun e σ hs => ?_) _ hw)
 obtain ⟨s', rfl, hk', hq⟩ := hs
 cases e with
 | normal =>
  refine ⟨rfl, ?_⟩
  have hq : stepC P sp noY fn.ntmps #[o1, o2] o1 s' (behindD P sp fn.ntmps hl.length k2 d g ids fn.results.toList v hlf c1) (fun _ _ => False) := hq
  rcases stepC_step (i := 0) hsp hk' (show (#[o1, o2] : Array Oper)[0]? = some o1 from rfl) hq with ⟨s2, f2, hs2, hk2, hfn, hlen, hc1⟩ | ⟨V, W, _, _, hz⟩
  ·refine ⟨_, f2, hs2, toPS fn.ntmps s2, Weak.refl _ _, ?_, fun id hid => getL_out (by omega), ?_⟩
   ·have := toPS_eval (n := fn.ntmps) hk2 (.tmp d)
    rw [this]; exact hfn
   ·refine pwp_mono c1 (fun e σ hs => ?_) _ (pwpC_pwp hsp c1 _ _ s2 hk2 hc1)
    obtain ⟨s3, rfl, hk3, hq3⟩ := hs
    cases e with
    | normal => exact endD_of hq3
    | ret => exact endD_of hq3
    | panic ch =>
     obtain ⟨V, rfl, h3⟩ := hq3
     obtain ⟨s1, h1, h4⟩ := endD_of h3
     exact ⟨V, s1, h1, rfl, h4⟩
    | _ => exact hq3.elim
  ·exact hz.elim
 | _ => exact hq.elim
section
variable (sp : Spec) (n k k2 d : Nat) (g : FuncId) (ids : List Nat) (rs : List ResultVar) (v : PV) (hlf : List PO) (o1 o2 : Oper) (c1 : Code) (s : CS) (f : Foot)
@[go_sem] theorem aheadD_eq : aheadD P sp n k k2 d g ids rs v hlf o1 o2 c1 .normal s = stepC P sp noY n #[o1, o2] o1 s (behindD P sp n k k2 d g ids rs v hlf c1) fun _ _ => False := rfl
@[go_sem] theorem behindD_eq : behindD P sp n k k2 d g ids rs v hlf c1 s f = (getA s.env d = .fnc g ids ∧ s.heap.length = k2 ∧ pwpC P sp ⟨noY, k2, true⟩ n c1 (bodyDC P k k2 n g ids rs v hlf) s) := rfl
@[go_sem] theorem bodyDC_n : bodyDC P k k2 n g ids rs v hlf .normal s = endD P k k2 n g ids rs v hlf none s := rfl
@[go_sem] theorem bodyDC_r : bodyDC P k k2 n g ids rs v hlf .ret s = endD P k k2 n g ids rs v hlf none s := rfl
theorem bodyDC_p (V : Value) : bodyDC P k k2 n g ids rs v hlf (.panic [{ v := V, recovered := false }]) s = endD P k k2 n g ids rs v hlf (some V) s := by
 refine propext ⟨?_, fun h => ⟨V, rfl, h⟩⟩
 rintro ⟨V', e, h⟩
 simp only [List.cons.injEq, and_true, PanicEntry.mk.injEq] at e
 cases e
 exact h
attribute [go_sem] bodyDC_p bodyR
end
end Go.Pm

/- Part QmFz. -/
namespace Go.Pm
open Go Go.RowKit
def Spec.frz (sp : Spec) : Spec := { sp with fz := fun _ => true }
theorem Spec.frz_ok {P : Program} {sp : Spec} (h : SpecOk P sp) : SpecOk P sp.frz := ⟨h.1, h.2⟩
section
variable (f : FuncId) (sp : Spec) (al : List TV) (ps : List PV) (hl : List PO) (t : TypeId) (Y : YS)
@[go_sem] theorem frz_p : sp.frz.p f al = sp.p f al := rfl
@[go_sem] theorem frz_h : sp.frz.h f ps hl = sp.h f ps hl := rfl
@[go_sem] theorem frz_y : sp.frz.y Y f ps hl = sp.y Y f ps hl := rfl
@[go_sem] theorem frz_fz : sp.frz.fz f = true := rfl
@[go_sem] theorem frz_pn : sp.frz.pn f ps hl = sp.pn f ps hl := rfl
@[go_sem] theorem frz_fr : sp.frz.fr f = sp.fr f := rfl
@[go_sem] theorem frz_yf : sp.frz.yf f = sp.yf f := rfl
@[go_sem] theorem frz_gd : sp.frz.gd = sp.gd := rfl
@[go_sem] theorem frz_mu : sp.frz.mu t = sp.mu t := rfl
@[go_sem] theorem frz_nf : sp.frz.nf t = sp.nf t := rfl
end
def Spec.gdt (sp : Spec) : Spec := { sp with gd := true }
theorem Spec.gdt_ok {P : Program} {sp : Spec} (h : SpecOk P sp) : SpecOk P sp.gdt := ⟨h.1, h.2⟩
section
variable (f : FuncId) (sp : Spec) (al : List TV) (ps : List PV) (hl : List PO) (t : TypeId) (Y : YS)
@[go_sem] theorem gdt_p : sp.gdt.p f al = sp.p f al := rfl
@[go_sem] theorem gdt_h : sp.gdt.h f ps hl = sp.h f ps hl := rfl
@[go_sem] theorem gdt_y : sp.gdt.y Y f ps hl = sp.y Y f ps hl := rfl
@[go_sem] theorem gdt_fz : sp.gdt.fz f = sp.fz f := rfl
@[go_sem] theorem gdt_pn : sp.gdt.pn f ps hl = sp.pn f ps hl := rfl
@[go_sem] theorem gdt_fr : sp.gdt.fr f = sp.fr f := rfl
@[go_sem] theorem gdt_yf : sp.gdt.yf f = sp.yf f := rfl
@[go_sem] theorem gdt_gd : sp.gdt.gd = true := rfl
@[go_sem] theorem gdt_mu : sp.gdt.mu t = sp.mu t := rfl
@[go_sem] theorem gdt_nf : sp.gdt.nf t = sp.nf t := rfl
end
end Go.Pm

/- Part QmSh. -/
namespace Go.Pm
open Go Go.RowKit
open Classical in
noncomputable def oneP (a0 : List TV) (r0 : TV) : List TV → Option TV := fun a => if a = a0 then some r0 else none
theorem oneP_ok {P : Program} {f : FuncId} {a0 : List TV} {r0 : TV} (h : PCalls P f a0 r0) : ∀ a r, oneP a0 r0 a = some r → PCalls P f a r := by
 intro a r e
 unfold oneP at e
 split at e
 ·rename_i hc; subst hc; cases e; exact h
 ·cases e
open Classical in
@[go_sem] theorem oneP_eq (a0 : List TV) (r0 : TV) (a : List TV) : oneP a0 r0 a = if a = a0 then some r0 else none := rfl
open Classical in
noncomputable def oneHs (ps0 : List PV) (hl0 : List PO) (r : PV × List PO) : List PV → List PO → Option (PV × List PO) := fun ps hl => if ps = ps0 ∧ hl = hl0 then some r else none
open Classical in
@[go_sem] theorem oneHs_eq (ps0 : List PV) (hl0 : List PO) (r : PV × List PO) (ps : List PV) (hl : List PO) : oneHs ps0 hl0 r ps hl = if ps = ps0 ∧ hl = hl0 then some r else none := rfl
open Classical in
noncomputable def manyP : List (List TV × TV) → List TV → Option TV
 | [], _ => none
 | p :: l, a => if a = p.1 then some p.2 else manyP l a
@[go_sem] theorem manyP_nil (a : List TV) : manyP [] a = none := by unfold manyP; rfl
open Classical in
@[go_sem] theorem manyP_cons (a0 : List TV) (r0 : TV) (l : List (List TV × TV)) (a : List TV) : manyP ((a0, r0) :: l) a = if a = a0 then some r0 else manyP l a := by rw [manyP]
end Go.Pm
