/- What the claim leans on, text 6. -/
import Derived.Test.YtlonlnfenbadbaaDoorC5
set_option linter.unusedSimpArgs false
set_option linter.unusedVariables false

/- Part TGg. -/
namespace Go.Proofs.YtlonlnfenbadbaaDoor
open Go.RowKit Go.Pm Go.Oc Go.Oc.Ix Ix
set_option maxRecDepth 100000
set_option linter.unusedVariables false
set_option maxHeartbeats 8000000

namespace Gx
noncomputable def ixTrain : List TV → Option TV
 | [.sl cs n full, .int .i64 p, .int .i64 q] => match unI cs with
  | some st => if n = st.length ∧ stockOk1 st = true ∧ (0 ≤ p ∧ p ≤ 100000) ∧ 0 ≤ q ∧ q ≤ 100000 then some ((trainP st p q).getD noTn).tv else none
  | none => none
 | _ => none
theorem ixTrain_ok : ∀ xs r, ixTrain xs = some r → PCalls Tryd.prog 62 xs r := by
 intro xs r h
 unfold ixTrain at h
 split at h
 ·rename_i cs n full p q
  split at h
  ·rename_i st hl
   split at h
   ·rename_i hc; cases h
    obtain ⟨rfl, h0, h1, h2⟩ := hc
    have e := unI_some hl
    rw [ic_ints] at e
    subst e
    exact iTrain_c full h0 h1 h2
   ·cases h
  ·cases h
 ·cases h
attribute [go_sem] ixTrain
noncomputable def spGt : Pm.Spec := ((noSpec.one 61 ixWithin).one 60 ixIsStock).one 62 ixTrain
@[go_sem] theorem spGt_p (f : FuncId) (xs : List TV) : spGt.p f xs = Pm.Spec.p (((noSpec.one 61 ixWithin).one 60 ixIsStock).one 62 ixTrain) f xs := rfl
@[go_sem] theorem spGt_h (f : FuncId) (ps : List PV) (hl : List PO) : spGt.h f ps hl = Pm.Spec.h (((noSpec.one 61 ixWithin).one 60 ixIsStock).one 62 ixTrain) f ps hl := rfl
@[go_sem] theorem spGt_y (Y : Pm.YS) (f : FuncId) (ps : List PV) (hl : List PO) : spGt.y Y f ps hl = Pm.Spec.y (((noSpec.one 61 ixWithin).one 60 ixIsStock).one 62 ixTrain) Y f ps hl := rfl
@[go_sem] theorem spGt_fz (f : FuncId) : spGt.fz f = Pm.Spec.fz (((noSpec.one 61 ixWithin).one 60 ixIsStock).one 62 ixTrain) f := rfl
@[go_sem] theorem spGt_fr (f : FuncId) : spGt.fr f = Pm.Spec.fr (((noSpec.one 61 ixWithin).one 60 ixIsStock).one 62 ixTrain) f := rfl
@[go_sem] theorem spGt_yf (f : FuncId) : spGt.yf f = Pm.Spec.yf (((noSpec.one 61 ixWithin).one 60 ixIsStock).one 62 ixTrain) f := rfl
@[go_sem] theorem spGt_gd : spGt.gd = Pm.Spec.gd (((noSpec.one 61 ixWithin).one 60 ixIsStock).one 62 ixTrain) := rfl
@[go_sem] theorem spGt_mu (t : TypeId) : spGt.mu t = Pm.Spec.mu (((noSpec.one 61 ixWithin).one 60 ixIsStock).one 62 ixTrain) t := rfl
@[go_sem] theorem spGt_nf (t : TypeId) : spGt.nf t = Pm.Spec.nf (((noSpec.one 61 ixWithin).one 60 ixIsStock).one 62 ixTrain) t := rfl
theorem spGt_ok : SpecOk Tryd.prog spGt := Spec.one_ok ixTrain_ok (Spec.one_ok ixIsStock_ok (Spec.one_ok ixWithin_ok noSpec_ok))
theorem tr_not {st : List Int} {p q : Int} {tr : Tn} (h : trainP st p q = some tr) : (tr.a == -1) = false :=
 beq_int_f (by rcases train_some h with ⟨_, _, _, _, _, _, e⟩ | ⟨_, _, _, _, _, _, _, _, e⟩ <;> rw [e] <;> simp only <;> omega)
theorem iTrainE_c {st : List Int} {s : TV} (hs : IsRow ic s st) (hsl : st.length ≤ 17592186044415) (p q : Int) : PCalls Tryd.prog 17 [s, .int .i64 p, .int .i64 q] (.tup [(trainE st p q).1.tv, .int .i64 (trainE st p q).2]) := by
 have rI := rowI_is hs
 unfold rowL at rI
 unfold trainE
 refine pcalls_by Tryd.mixes spGt_ok (fn := Tryd.f17) Tryd.func17 rfl (by kernel_rfl) (by show 3 ≤ _; decide) ?_
 cases h1 : stockOk1 st with
 | false => cases h2 : inB p 1 100000 <;> cases h3 : inB q 1 100000 <;> simp (decide := true) (maxSteps := 4000000) only [go_sem, Nat.reduceAdd, Nat.reduceSub, Nat.reduceMul, Nat.reduceDiv, Nat.reduceMod, Nat.reduceLT, Nat.reduceLeDiff, Nat.reduceEqDiff, Nat.reduceBEq, Nat.reduceBNe, Nat.reduceGT, Int.reduceAdd, Int.reduceSub, Int.reduceMul, Int.reduceNeg, Int.reduceLT, Int.reduceLE, Int.reduceEq, Int.reduceNe, Int.reduceBEq, Int.reduceBNe, Int.reduceToNat, Int.reduceGT, Int.reduceGE, ↓reduceIte, decide_true, decide_false, eq_self, Nat.mul_one, Nat.zero_mul, Nat.one_mul, Int.le_refl, Nat.le_refl, Int.cast_ofNat_Int, Tryd.f17, rI, hsl, h1, h2, h3, Tn.tv, Tn.cs]
 | true =>
  have h1' := stockOk1_iff.1 h1
  cases h2 : inB p 1 100000 with
  | false => cases h3 : inB q 1 100000 <;> simp (decide := true) (maxSteps := 4000000) only [go_sem, Nat.reduceAdd, Nat.reduceSub, Nat.reduceMul, Nat.reduceDiv, Nat.reduceMod, Nat.reduceLT, Nat.reduceLeDiff, Nat.reduceEqDiff, Nat.reduceBEq, Nat.reduceBNe, Nat.reduceGT, Int.reduceAdd, Int.reduceSub, Int.reduceMul, Int.reduceNeg, Int.reduceLT, Int.reduceLE, Int.reduceEq, Int.reduceNe, Int.reduceBEq, Int.reduceBNe, Int.reduceToNat, Int.reduceGT, Int.reduceGE, ↓reduceIte, decide_true, decide_false, eq_self, Nat.mul_one, Nat.zero_mul, Nat.one_mul, Int.le_refl, Nat.le_refl, Int.cast_ofNat_Int, Tryd.f17, rI, hsl, h1, h2, h3, Tn.tv, Tn.cs]
  | true =>
   cases h3 : inB q 1 100000 with
   | false => simp (decide := true) (maxSteps := 4000000) only [go_sem, Nat.reduceAdd, Nat.reduceSub, Nat.reduceMul, Nat.reduceDiv, Nat.reduceMod, Nat.reduceLT, Nat.reduceLeDiff, Nat.reduceEqDiff, Nat.reduceBEq, Nat.reduceBNe, Nat.reduceGT, Int.reduceAdd, Int.reduceSub, Int.reduceMul, Int.reduceNeg, Int.reduceLT, Int.reduceLE, Int.reduceEq, Int.reduceNe, Int.reduceBEq, Int.reduceBNe, Int.reduceToNat, Int.reduceGT, Int.reduceGE, ↓reduceIte, decide_true, decide_false, eq_self, Nat.mul_one, Nat.zero_mul, Nat.one_mul, Int.le_refl, Nat.le_refl, Int.cast_ofNat_Int, Tryd.f17, rI, hsl, h1, h2, h3, Tn.tv, Tn.cs]
   | true =>
    have hp := inB_iff.1 h2
    have hq := inB_iff.1 h3
    obtain ⟨f, rfl⟩ := hs.ne (by omega)
    rw [ic_ints] at rI ⊢
    simp only [unI_eq, if_true] at rI
    have c1 : (0 ≤ p ∧ p ≤ 100000) ∧ 0 ≤ q ∧ q ≤ 100000 := by omega
    cases htr : trainP st p q with
    | none => simp (decide := true) (maxSteps := 4000000) only [go_sem, Nat.reduceAdd, Nat.reduceSub, Nat.reduceMul, Nat.reduceDiv, Nat.reduceMod, Nat.reduceLT, Nat.reduceLeDiff, Nat.reduceEqDiff, Nat.reduceBEq, Nat.reduceBNe, Nat.reduceGT, Int.reduceAdd, Int.reduceSub, Int.reduceMul, Int.reduceNeg, Int.reduceLT, Int.reduceLE, Int.reduceEq, Int.reduceNe, Int.reduceBEq, Int.reduceBNe, Int.reduceToNat, Int.reduceGT, Int.reduceGE, ↓reduceIte, decide_true, decide_false, eq_self, Nat.mul_one, Nat.zero_mul, Nat.one_mul, Int.le_refl, Nat.le_refl, Int.cast_ofNat_Int, Tryd.f17, rI, hsl, h1, h2, h3, unI_eq, c1, htr, Option.getD_none, noTn, Tn.tv, Tn.cs]
    | some tr =>
     have hn := tr_not htr
     simp (decide := true) (maxSteps := 4000000) only [go_sem, Nat.reduceAdd, Nat.reduceSub, Nat.reduceMul, Nat.reduceDiv, Nat.reduceMod, Nat.reduceLT, Nat.reduceLeDiff, Nat.reduceEqDiff, Nat.reduceBEq, Nat.reduceBNe, Nat.reduceGT, Int.reduceAdd, Int.reduceSub, Int.reduceMul, Int.reduceNeg, Int.reduceLT, Int.reduceLE, Int.reduceEq, Int.reduceNe, Int.reduceBEq, Int.reduceBNe, Int.reduceToNat, Int.reduceGT, Int.reduceGE, ↓reduceIte, decide_true, decide_false, eq_self, Nat.mul_one, Nat.zero_mul, Nat.one_mul, Int.le_refl, Nat.le_refl, Int.cast_ofNat_Int, Tryd.f17, rI, hsl, h1, h2, h3, unI_eq, c1, htr, Option.getD_some, hn, Tn.tv, Tn.cs, Bool.false_and]
end Gx
end Go.Proofs.YtlonlnfenbadbaaDoor
namespace Go.Proofs.YtlonlnfenbadbaaDoor
open Go.RowKit Go.Pm Go.Oc Go.Oh Go.Ow
set_option maxRecDepth 100000
set_option maxHeartbeats 8000000

theorem tSpan_c (a b : Int) : PCalls Tryd.prog 68 [.int .i64 a, .int .i64 b] (.agg [.int .i64 a, .int .i64 b]) := by
 refine pcalls_by Tryd.mixes noSpec_ok (fn := Tryd.f68) Tryd.func68 rfl (by kernel_rfl) (by show 2 ≤ _; decide) ?_
 simp (decide := true) (maxSteps := 4000000) only [go_sem, Nat.reduceAdd, Nat.reduceSub, Nat.reduceMul, Nat.reduceDiv, Nat.reduceMod, Nat.reduceLT, Nat.reduceLeDiff, Nat.reduceEqDiff, Nat.reduceBEq, Nat.reduceBNe, Nat.reduceGT, Int.reduceAdd, Int.reduceSub, Int.reduceMul, Int.reduceNeg, Int.reduceLT, Int.reduceLE, Int.reduceEq, Int.reduceNe, Int.reduceBEq, Int.reduceBNe, Int.reduceToNat, Int.reduceGT, Int.reduceGE, ↓reduceIte, decide_true, decide_false, eq_self, Nat.mul_one, Nat.zero_mul, Nat.one_mul, Int.le_refl, Nat.le_refl, Int.cast_ofNat_Int, Tryd.f68]
noncomputable def txSpan : List TV → Option TV
 | [.int .i64 a, .int .i64 b] => some (.agg [.int .i64 a, .int .i64 b])
 | _ => none
theorem txSpan_ok : ∀ xs r, txSpan xs = some r → PCalls Tryd.prog 68 xs r := by
 intro xs r h
 unfold txSpan at h
 split at h
 ·cases h; exact tSpan_c _ _
 ·cases h
attribute [go_sem] txSpan
theorem tClicks_e : evP Tryd.prog (evS Tryd.prog noSpec 60 5) 60 25 [.agg [.int .i64 200, .int .i64 312], .int .i64 20, .int .i64 60] = some (.tup [.int .i64 (-13), .int .i64 0]) := by kernel_rfl
theorem tSurf_p : Go.Oc.Gl.surfP [⟨⟨7, 8⟩, ⟨0, 0⟩, 0⟩] = ([⟨7, 8⟩], 0) := by decide +kernel
theorem tTrain_p : Go.Oc.Ix.trainE [20, 30, 40, 60] 3 2 = (⟨1, 0, -1, -1⟩, 0) := by decide +kernel
def grW : List Int := [20, 30]
theorem grW_ok : whOk grW := ⟨by decide, by decide⟩
theorem grW_srt : srt grW := fun j hj => by
 have : j = 0 := by simp only [grW, List.length_cons, List.length_nil] at hj; omega
 subst this; decide
theorem tCut_p : (gearsL grW.length).find? (cutsB grW 1 4 1 6) = some [0, 1] := by decide +kernel
theorem tGround_c : PCalls Tryd.prog 19 [] (.bool true) := by
 have h1 := Gx.iTrainE_c (st := [20, 30, 40, 60]) (s := .sl [.int .i64 20, .int .i64 30, .int .i64 40, .int .i64 60] 4 true) (.inr ⟨true, rfl⟩) (by decide) 3 2
 rw [tTrain_p] at h1
 have h2 := sCut_c grW true 1 4 1 6 grW_srt grW_ok (by omega) (by omega) (by omega) (by omega)
 rw [tCut_p] at h2
 have h3 : PCalls Tryd.prog 25 [.agg [.int .i64 200, .int .i64 312], .int .i64 20, .int .i64 60] (.tup [.int .i64 (-13), .int .i64 0]) := evP_ok Tryd.mixes (evS_ok Tryd.mixes noSpec_ok 5) tClicks_e
 have h4 := Gs.gSurface_cQ (l := [⟨⟨7, 8⟩, ⟨0, 0⟩, 0⟩]) (s := .sl [.int .i64 7, .int .i64 8, .int .i64 0, .int .i64 0, .int .i64 0] 1 true) (.inr ⟨true, rfl⟩) (by decide)
 rw [tSurf_p] at h4
 have u1 : unS [.int .i64 7, .int .i64 8] = some [⟨7, 8⟩] := unS_eq [⟨7, 8⟩]
 have u2 : unI [.int .i64 0, .int .i64 1] = some [0, 1] := unIs [0, 1]
 refine pcalls_by Tryd.mixes (Spec.one_ok txSpan_ok (Spec.one_ok (oneP_ok h1) (Spec.one_ok (oneP_ok h2) (Spec.one_ok (oneP_ok h3) (Spec.one_ok (oneP_ok h4) Sx.spH14_ok))))) (fn := Tryd.f19) Tryd.func19 rfl (by kernel_rfl) (by show 0 ≤ _; decide) ?_
 simp (decide := true) (maxSteps := 4000000) only [go_sem, Nat.reduceAdd, Nat.reduceSub, Nat.reduceMul, Nat.reduceDiv, Nat.reduceMod, Nat.reduceLT, Nat.reduceLeDiff, Nat.reduceEqDiff, Nat.reduceBEq, Nat.reduceBNe, Nat.reduceGT, Int.reduceAdd, Int.reduceSub, Int.reduceMul, Int.reduceNeg, Int.reduceLT, Int.reduceLE, Int.reduceEq, Int.reduceNe, Int.reduceBEq, Int.reduceBNe, Int.reduceToNat, Int.reduceGT, Int.reduceGE, ↓reduceIte, decide_true, decide_false, eq_self, Nat.mul_one, Nat.zero_mul, Nat.one_mul, Int.le_refl, Nat.le_refl, Int.cast_ofNat_Int, Tryd.f19, latT, grW, ints, List.map_cons, List.map_nil, List.flatMap_cons, List.flatMap_nil, Span.cs, Go.Oc.Ix.Tn.tv, Go.Oc.Ix.Tn.cs, u1, u2]
 first | done | trace_state
noncomputable def txGround : List TV → Option TV
 | [] => some (.bool true)
 | _ => none
theorem txGround_ok : ∀ xs r, txGround xs = some r → PCalls Tryd.prog 19 xs r := by
 intro xs r h
 unfold txGround at h
 split at h
 ·cases h; exact tGround_c
 ·cases h
attribute [go_sem] txGround
end Go.Proofs.YtlonlnfenbadbaaDoor

/- Part TFa. -/
namespace Go.Of
open Go Go.RowKit Go.Pm Go.Oc Go.Oh Go.Oc.Ix
def badT (x : Int) : Bool := !inB x 1 8
def idxT (l : List Int) : Int := (fsTo (fun i => if badT (nthI l i) then some (i : Int) else none) l.length).getD (-1)
theorem idxT_iff (l : List Int) : decide (idxT l ≥ 0) = !(l.all fun n => inB n 1 8) := by
 unfold idxT
 cases h : fsTo (fun i => if badT (nthI l i) then some (i : Int) else none) l.length with
 | some k =>
  obtain ⟨i, hi, _, hk⟩ := fsTo_some h
  split at hk
  ·rename_i hb
   cases hk
   have e : (l.all fun n => inB n 1 8) = false := by
    rw [List.all_eq_false]
    have hx : l[i]? = some l[i] := List.getElem?_eq_getElem hi
    refine ⟨l[i], List.getElem_mem _, ?_⟩
    rw [nthI_at hx] at hb
    simpa [badT] using hb
   rw [e]; simp
  ·cases hk
 | none =>
  have e : (l.all fun n => inB n 1 8) = true := by
   rw [List.all_eq_true]
   intro x hx
   obtain ⟨i, hi⟩ := List.mem_iff_getElem?.1 hx
   have hlt : i < l.length := by
    rcases Nat.lt_or_ge i l.length with h | h
    ·exact h
    ·rw [List.getElem?_eq_none h] at hi; cases hi
   have h2 := fsTo_none.1 h i hlt
   rw [nthI_at hi] at h2
   cases hb : inB x 1 8 with
   | true => rfl
   | false => unfold badT at h2; rw [hb] at h2; cases h2
  rw [e]; rfl
def setB (T : List Int) (most : Int) : Bool := inB T.length 1 4 && (inB most 0 100000 && T.all fun n => inB n 1 8)
end Go.Of
namespace Go.Proofs.YtlonlnfenbadbaaDoor
open Go.RowKit Go.Pm Go.Oc Go.Oc.Ix Ix Go.Of Go.Ow
set_option maxRecDepth 100000
set_option linter.unusedVariables false
set_option maxHeartbeats 4000000

noncomputable def spFw : Pm.Spec := noSpec.one 112 scWithin
@[go_sem] theorem spFw_p (f : FuncId) (xs : List TV) : spFw.p f xs = Pm.Spec.p (noSpec.one 112 scWithin) f xs := rfl
@[go_sem] theorem spFw_h (f : FuncId) (ps : List PV) (hl : List PO) : spFw.h f ps hl = Pm.Spec.h (noSpec.one 112 scWithin) f ps hl := rfl
@[go_sem] theorem spFw_y (Y : Pm.YS) (f : FuncId) (ps : List PV) (hl : List PO) : spFw.y Y f ps hl = Pm.Spec.y (noSpec.one 112 scWithin) Y f ps hl := rfl
@[go_sem] theorem spFw_fz (f : FuncId) : spFw.fz f = Pm.Spec.fz (noSpec.one 112 scWithin) f := rfl
@[go_sem] theorem spFw_fr (f : FuncId) : spFw.fr f = Pm.Spec.fr (noSpec.one 112 scWithin) f := rfl
@[go_sem] theorem spFw_yf (f : FuncId) : spFw.yf f = Pm.Spec.yf (noSpec.one 112 scWithin) f := rfl
@[go_sem] theorem spFw_gd : spFw.gd = Pm.Spec.gd (noSpec.one 112 scWithin) := rfl
@[go_sem] theorem spFw_mu (t : TypeId) : spFw.mu t = Pm.Spec.mu (noSpec.one 112 scWithin) t := rfl
@[go_sem] theorem spFw_nf (t : TypeId) : spFw.nf t = Pm.Spec.nf (noSpec.one 112 scWithin) t := rfl
theorem spFw_ok : SpecOk Tryd.prog spFw := Spec.one_ok scWithin_ok noSpec_ok
theorem fBad_c (n : Int) : PCalls Tryd.prog 176 [.int .i64 n] (.bool (badT n)) := by
 refine pcalls_by Tryd.mixes spFw_ok (fn := Tryd.f176) Tryd.func176 rfl (by kernel_rfl) (by show 1 ≤ _; decide) ?_
 simp (decide := true) (maxSteps := 4000000) only [go_sem, Nat.reduceAdd, Nat.reduceSub, Nat.reduceMul, Nat.reduceDiv, Nat.reduceMod, Nat.reduceLT, Nat.reduceLeDiff, Nat.reduceEqDiff, Nat.reduceBEq, Nat.reduceBNe, Nat.reduceGT, Int.reduceAdd, Int.reduceSub, Int.reduceMul, Int.reduceNeg, Int.reduceLT, Int.reduceLE, Int.reduceEq, Int.reduceNe, Int.reduceBEq, Int.reduceBNe, Int.reduceToNat, Int.reduceGT, Int.reduceGE, ↓reduceIte, decide_true, decide_false, eq_self, Nat.mul_one, Nat.zero_mul, Nat.one_mul, Int.le_refl, Nat.le_refl, Int.cast_ofNat_Int, Tryd.f176, badT]
noncomputable def fBad : List TV → Option TV
 | [.int .i64 n] => some (.bool (badT n))
 | _ => none
theorem fBad_ok : ∀ xs r, fBad xs = some r → PCalls Tryd.prog 176 xs r := by
 intro xs r h
 unfold fBad at h
 split at h
 ·cases h; exact fBad_c _
 ·cases h
attribute [go_sem] fBad
noncomputable def spFb : Pm.Spec := spFw.one 176 fBad
@[go_sem] theorem spFb_p (f : FuncId) (xs : List TV) : spFb.p f xs = Pm.Spec.p (spFw.one 176 fBad) f xs := rfl
@[go_sem] theorem spFb_h (f : FuncId) (ps : List PV) (hl : List PO) : spFb.h f ps hl = Pm.Spec.h (spFw.one 176 fBad) f ps hl := rfl
@[go_sem] theorem spFb_y (Y : Pm.YS) (f : FuncId) (ps : List PV) (hl : List PO) : spFb.y Y f ps hl = Pm.Spec.y (spFw.one 176 fBad) Y f ps hl := rfl
@[go_sem] theorem spFb_fz (f : FuncId) : spFb.fz f = Pm.Spec.fz (spFw.one 176 fBad) f := rfl
@[go_sem] theorem spFb_fr (f : FuncId) : spFb.fr f = Pm.Spec.fr (spFw.one 176 fBad) f := rfl
@[go_sem] theorem spFb_yf (f : FuncId) : spFb.yf f = Pm.Spec.yf (spFw.one 176 fBad) f := rfl
@[go_sem] theorem spFb_gd : spFb.gd = Pm.Spec.gd (spFw.one 176 fBad) := rfl
@[go_sem] theorem spFb_mu (t : TypeId) : spFb.mu t = Pm.Spec.mu (spFw.one 176 fBad) t := rfl
@[go_sem] theorem spFb_nf (t : TypeId) : spFb.nf t = Pm.Spec.nf (spFw.one 176 fBad) t := rfl
theorem spFb_ok : SpecOk Tryd.prog spFb := Spec.one_ok fBad_ok spFw_ok
theorem fIndexFunc_c {l : List Int} {s : TV} (hl : IsRow ic s l) (hll : l.length ≤ 17592186044415) : PCalls Tryd.prog 148 [s, .fn 176 [] []] (.int .i64 (idxT l)) := by
 have hz : idxT l = (fsTo (fun i => if badT (nthI l i) then some (i : Int) else none) l.length).getD (-1) := rfl
 refine pcalls_by Tryd.mixes spFb_ok (fn := Tryd.f148) Tryd.func148 rfl (by kernel_rfl) (by show 2 ≤ _; decide) ?_
 rcases hl with ⟨rfl, rfl⟩ | ⟨f, rfl⟩
 ·simp (decide := true) (maxSteps := 4000000) only [go_sem, Nat.reduceAdd, Nat.reduceSub, Nat.reduceMul, Nat.reduceDiv, Nat.reduceMod, Nat.reduceLT, Nat.reduceLeDiff, Nat.reduceEqDiff, Nat.reduceBEq, Nat.reduceBNe, Nat.reduceGT, Int.reduceAdd, Int.reduceSub, Int.reduceMul, Int.reduceNeg, Int.reduceLT, Int.reduceLE, Int.reduceEq, Int.reduceNe, Int.reduceBEq, Int.reduceBNe, Int.reduceToNat, Int.reduceGT, Int.reduceGE, ↓reduceIte, decide_true, decide_false, eq_self, Nat.mul_one, Nat.zero_mul, Nat.one_mul, Int.le_refl, Nat.le_refl, Int.cast_ofNat_Int, Tryd.f148]
  refine pwpC_loopU (A := Unit) [0, 1, 4, 7] (fun _ => [(8, .t (.int .i64 0))]) (fun _ => []) (fun _ => 0) () (by decide) (fun _ => by rfl) ?_ fun Q1 hQ1 _ I1 hI1 => ?_
  ·simp (decide := true) (maxSteps := 4000000) only [go_sem, Nat.reduceAdd, Nat.reduceSub, Nat.reduceMul, Nat.reduceDiv, Nat.reduceMod, Nat.reduceLT, Nat.reduceLeDiff, Nat.reduceEqDiff, Nat.reduceBEq, Nat.reduceBNe, Nat.reduceGT, Int.reduceAdd, Int.reduceSub, Int.reduceMul, Int.reduceNeg, Int.reduceLT, Int.reduceLE, Int.reduceEq, Int.reduceNe, Int.reduceBEq, Int.reduceBNe, Int.reduceToNat, Int.reduceGT, Int.reduceGE, ↓reduceIte, decide_true, decide_false, eq_self, Nat.mul_one, Nat.zero_mul, Nat.one_mul, Int.le_refl, Nat.le_refl, Int.cast_ofNat_Int]
  ·simp (decide := true) (maxSteps := 4000000) only [go_sem, Nat.reduceAdd, Nat.reduceSub, Nat.reduceMul, Nat.reduceDiv, Nat.reduceMod, Nat.reduceLT, Nat.reduceLeDiff, Nat.reduceEqDiff, Nat.reduceBEq, Nat.reduceBNe, Nat.reduceGT, Int.reduceAdd, Int.reduceSub, Int.reduceMul, Int.reduceNeg, Int.reduceLT, Int.reduceLE, Int.reduceEq, Int.reduceNe, Int.reduceBEq, Int.reduceBNe, Int.reduceToNat, Int.reduceGT, Int.reduceGE, ↓reduceIte, decide_true, decide_false, eq_self, Nat.mul_one, Nat.zero_mul, Nat.one_mul, Int.le_refl, Nat.le_refl, Int.cast_ofNat_Int]
   refine hQ1 _ _ ?_
   simp (decide := true) (maxSteps := 4000000) only [go_sem, Nat.reduceAdd, Nat.reduceSub, Nat.reduceMul, Nat.reduceDiv, Nat.reduceMod, Nat.reduceLT, Nat.reduceLeDiff, Nat.reduceEqDiff, Nat.reduceBEq, Nat.reduceBNe, Nat.reduceGT, Int.reduceAdd, Int.reduceSub, Int.reduceMul, Int.reduceNeg, Int.reduceLT, Int.reduceLE, Int.reduceEq, Int.reduceNe, Int.reduceBEq, Int.reduceBNe, Int.reduceToNat, Int.reduceGT, Int.reduceGE, ↓reduceIte, decide_true, decide_false, eq_self, Nat.mul_one, Nat.zero_mul, Nat.one_mul, Int.le_refl, Nat.le_refl, Int.cast_ofNat_Int]
   first | done | rfl
 ·rw [ic_ints]
  simp (decide := true) (maxSteps := 4000000) only [go_sem, Nat.reduceAdd, Nat.reduceSub, Nat.reduceMul, Nat.reduceDiv, Nat.reduceMod, Nat.reduceLT, Nat.reduceLeDiff, Nat.reduceEqDiff, Nat.reduceBEq, Nat.reduceBNe, Nat.reduceGT, Int.reduceAdd, Int.reduceSub, Int.reduceMul, Int.reduceNeg, Int.reduceLT, Int.reduceLE, Int.reduceEq, Int.reduceNe, Int.reduceBEq, Int.reduceBNe, Int.reduceToNat, Int.reduceGT, Int.reduceGE, ↓reduceIte, decide_true, decide_false, eq_self, Nat.mul_one, Nat.zero_mul, Nat.one_mul, Int.le_refl, Nat.le_refl, Int.cast_ofNat_Int, Tryd.f148]
  refine pwpC_loopU (A := { k : Nat // k ≤ l.length ∧ fsTo (fun i => if badT (nthI l i) then some (i : Int) else none) k = none }) [0, 1, 4, 7] (fun k => [(8, .t (.int .i64 k.1))]) (fun _ => []) (fun k => l.length - k.1) ⟨0, by omega, rfl⟩ (by decide) (fun _ => by rfl) ?_ fun Q1 hQ1 ⟨k, hk, hno⟩ I1 hI1 => ?_
  ·simp (decide := true) (maxSteps := 4000000) only [go_sem, Nat.reduceAdd, Nat.reduceSub, Nat.reduceMul, Nat.reduceDiv, Nat.reduceMod, Nat.reduceLT, Nat.reduceLeDiff, Nat.reduceEqDiff, Nat.reduceBEq, Nat.reduceBNe, Nat.reduceGT, Int.reduceAdd, Int.reduceSub, Int.reduceMul, Int.reduceNeg, Int.reduceLT, Int.reduceLE, Int.reduceEq, Int.reduceNe, Int.reduceBEq, Int.reduceBNe, Int.reduceToNat, Int.reduceGT, Int.reduceGE, ↓reduceIte, decide_true, decide_false, eq_self, Nat.mul_one, Nat.zero_mul, Nat.one_mul, Int.le_refl, Nat.le_refl, Int.cast_ofNat_Int]
  ·by_cases hlt : (k : Int) < l.length
   ·obtain ⟨x, hx⟩ := get_lt hlt
    have hd := ints_at hx
    rw [Nat.mul_one] at hd
    have hnx := nthI_at hx
    have hc1 : IntKind.i64.wrap (k + 1) = ((k + 1 : Nat) : Int) := by rw [wrap_in (by omega) (by omega)]; omega
    cases hb : badT x with
    | true =>
     have e : idxT l = k := by
      rw [hz, fsTo_hit hno (show k < l.length by omega) (by rw [hnx, hb]; rfl)]; rfl
     simp (decide := true) (maxSteps := 4000000) only [go_sem, Nat.reduceAdd, Nat.reduceSub, Nat.reduceMul, Nat.reduceDiv, Nat.reduceMod, Nat.reduceLT, Nat.reduceLeDiff, Nat.reduceEqDiff, Nat.reduceBEq, Nat.reduceBNe, Nat.reduceGT, Int.reduceAdd, Int.reduceSub, Int.reduceMul, Int.reduceNeg, Int.reduceLT, Int.reduceLE, Int.reduceEq, Int.reduceNe, Int.reduceBEq, Int.reduceBNe, Int.reduceToNat, Int.reduceGT, Int.reduceGE, ↓reduceIte, decide_true, decide_false, eq_self, Nat.mul_one, Nat.zero_mul, Nat.one_mul, Int.le_refl, Nat.le_refl, Int.cast_ofNat_Int, hlt, hd, hb]
     try (refine hQ1 _ _ ?_)
     try simp (decide := true) (maxSteps := 4000000) only [go_sem, Nat.reduceAdd, Nat.reduceSub, Nat.reduceMul, Nat.reduceDiv, Nat.reduceMod, Nat.reduceLT, Nat.reduceLeDiff, Nat.reduceEqDiff, Nat.reduceBEq, Nat.reduceBNe, Nat.reduceGT, Int.reduceAdd, Int.reduceSub, Int.reduceMul, Int.reduceNeg, Int.reduceLT, Int.reduceLE, Int.reduceEq, Int.reduceNe, Int.reduceBEq, Int.reduceBNe, Int.reduceToNat, Int.reduceGT, Int.reduceGE, ↓reduceIte, decide_true, decide_false, eq_self, Nat.mul_one, Nat.zero_mul, Nat.one_mul, Int.le_refl, Nat.le_refl, Int.cast_ofNat_Int, e]
    | false =>
     simp (decide := true) (maxSteps := 4000000) only [go_sem, Nat.reduceAdd, Nat.reduceSub, Nat.reduceMul, Nat.reduceDiv, Nat.reduceMod, Nat.reduceLT, Nat.reduceLeDiff, Nat.reduceEqDiff, Nat.reduceBEq, Nat.reduceBNe, Nat.reduceGT, Int.reduceAdd, Int.reduceSub, Int.reduceMul, Int.reduceNeg, Int.reduceLT, Int.reduceLE, Int.reduceEq, Int.reduceNe, Int.reduceBEq, Int.reduceBNe, Int.reduceToNat, Int.reduceGT, Int.reduceGE, ↓reduceIte, decide_true, decide_false, eq_self, Nat.mul_one, Nat.zero_mul, Nat.one_mul, Int.le_refl, Nat.le_refl, Int.cast_ofNat_Int, hlt, hd, hb]
     refine hI1 _ ⟨k + 1, by omega, by rw [fsTo_succ, hno, hnx, hb]; rfl⟩ (by simp only; omega) ?_
     simp (decide := true) (maxSteps := 4000000) only [go_sem, Nat.reduceAdd, Nat.reduceSub, Nat.reduceMul, Nat.reduceDiv, Nat.reduceMod, Nat.reduceLT, Nat.reduceLeDiff, Nat.reduceEqDiff, Nat.reduceBEq, Nat.reduceBNe, Nat.reduceGT, Int.reduceAdd, Int.reduceSub, Int.reduceMul, Int.reduceNeg, Int.reduceLT, Int.reduceLE, Int.reduceEq, Int.reduceNe, Int.reduceBEq, Int.reduceBNe, Int.reduceToNat, Int.reduceGT, Int.reduceGE, ↓reduceIte, decide_true, decide_false, eq_self, Nat.mul_one, Nat.zero_mul, Nat.one_mul, Int.le_refl, Nat.le_refl, Int.cast_ofNat_Int, hc1]
   ·have hke : k = l.length := by omega
    subst hke
    have e : idxT l = -1 := by rw [hz, hno]; rfl
    simp (decide := true) (maxSteps := 4000000) only [go_sem, Nat.reduceAdd, Nat.reduceSub, Nat.reduceMul, Nat.reduceDiv, Nat.reduceMod, Nat.reduceLT, Nat.reduceLeDiff, Nat.reduceEqDiff, Nat.reduceBEq, Nat.reduceBNe, Nat.reduceGT, Int.reduceAdd, Int.reduceSub, Int.reduceMul, Int.reduceNeg, Int.reduceLT, Int.reduceLE, Int.reduceEq, Int.reduceNe, Int.reduceBEq, Int.reduceBNe, Int.reduceToNat, Int.reduceGT, Int.reduceGE, ↓reduceIte, decide_true, decide_false, eq_self, Nat.mul_one, Nat.zero_mul, Nat.one_mul, Int.le_refl, Nat.le_refl, Int.cast_ofNat_Int, hlt]
    refine hQ1 _ _ ?_
    simp (decide := true) (maxSteps := 4000000) only [go_sem, Nat.reduceAdd, Nat.reduceSub, Nat.reduceMul, Nat.reduceDiv, Nat.reduceMod, Nat.reduceLT, Nat.reduceLeDiff, Nat.reduceEqDiff, Nat.reduceBEq, Nat.reduceBNe, Nat.reduceGT, Int.reduceAdd, Int.reduceSub, Int.reduceMul, Int.reduceNeg, Int.reduceLT, Int.reduceLE, Int.reduceEq, Int.reduceNe, Int.reduceBEq, Int.reduceBNe, Int.reduceToNat, Int.reduceGT, Int.reduceGE, ↓reduceIte, decide_true, decide_false, eq_self, Nat.mul_one, Nat.zero_mul, Nat.one_mul, Int.le_refl, Nat.le_refl, Int.cast_ofNat_Int, e]
theorem fContains_c {l : List Int} {s : TV} (hl : IsRow ic s l) (hll : l.length ≤ 17592186044415) : PCalls Tryd.prog 108 [s, .fn 176 [] []] (.bool (!(l.all fun n => inB n 1 8))) := by
 have hb := idxT_iff l
 refine pcalls_by Tryd.mixes (Spec.one_ok (oneP_ok (fIndexFunc_c hl hll)) spFb_ok) (fn := Tryd.f108) Tryd.func108 rfl (by kernel_rfl) (by show 2 ≤ _; decide) ?_
 simp (decide := true) (maxSteps := 4000000) only [go_sem, Nat.reduceAdd, Nat.reduceSub, Nat.reduceMul, Nat.reduceDiv, Nat.reduceMod, Nat.reduceLT, Nat.reduceLeDiff, Nat.reduceEqDiff, Nat.reduceBEq, Nat.reduceBNe, Nat.reduceGT, Int.reduceAdd, Int.reduceSub, Int.reduceMul, Int.reduceNeg, Int.reduceLT, Int.reduceLE, Int.reduceEq, Int.reduceNe, Int.reduceBEq, Int.reduceBNe, Int.reduceToNat, Int.reduceGT, Int.reduceGE, ↓reduceIte, decide_true, decide_false, eq_self, Nat.mul_one, Nat.zero_mul, Nat.one_mul, Int.le_refl, Nat.le_refl, Int.cast_ofNat_Int, Tryd.f108, hb]
theorem fIsSet_c {T : List Int} {s : TV} (most : Int) (hl : IsRow ic s T) (hll : T.length ≤ 17592186044415) : PCalls Tryd.prog 156 [.agg [s, .int .i64 most]] (.bool (setB T most)) := by
 have e : setB T most = (inB T.length 1 4 && (inB most 0 100000 && T.all fun n => inB n 1 8)) := rfl
 refine pcalls_by Tryd.mixes (Spec.one_ok (oneP_ok (fContains_c hl hll)) spFw_ok) (fn := Tryd.f156) Tryd.func156 rfl (by kernel_rfl) (by show 1 ≤ _; decide) ?_
 rcases hl with ⟨rfl, rfl⟩ | ⟨f, rfl⟩
 ·have h0 : inB 0 1 4 = false := rfl
  have e' : setB [] most = false := by unfold setB; rw [show inB ((([] : List Int).length : Nat) : Int) 1 4 = false from rfl]; rfl
  simp (decide := true) (maxSteps := 4000000) only [go_sem, Nat.reduceAdd, Nat.reduceSub, Nat.reduceMul, Nat.reduceDiv, Nat.reduceMod, Nat.reduceLT, Nat.reduceLeDiff, Nat.reduceEqDiff, Nat.reduceBEq, Nat.reduceBNe, Nat.reduceGT, Int.reduceAdd, Int.reduceSub, Int.reduceMul, Int.reduceNeg, Int.reduceLT, Int.reduceLE, Int.reduceEq, Int.reduceNe, Int.reduceBEq, Int.reduceBNe, Int.reduceToNat, Int.reduceGT, Int.reduceGE, ↓reduceIte, decide_true, decide_false, eq_self, Nat.mul_one, Nat.zero_mul, Nat.one_mul, Int.le_refl, Nat.le_refl, Int.cast_ofNat_Int, Tryd.f156, h0, e']
 ·rw [ic_ints]
  cases h1 : inB (T.length : Int) 1 4 <;> cases h3 : inB most 0 100000 <;> cases h2 : (T.all fun n => inB n 1 8) <;> rw [h1, h2, h3] at e <;> simp (decide := true) (maxSteps := 4000000) only [go_sem, Nat.reduceAdd, Nat.reduceSub, Nat.reduceMul, Nat.reduceDiv, Nat.reduceMod, Nat.reduceLT, Nat.reduceLeDiff, Nat.reduceEqDiff, Nat.reduceBEq, Nat.reduceBNe, Nat.reduceGT, Int.reduceAdd, Int.reduceSub, Int.reduceMul, Int.reduceNeg, Int.reduceLT, Int.reduceLE, Int.reduceEq, Int.reduceNe, Int.reduceBEq, Int.reduceBNe, Int.reduceToNat, Int.reduceGT, Int.reduceGE, ↓reduceIte, decide_true, decide_false, eq_self, Nat.mul_one, Nat.zero_mul, Nat.one_mul, Int.le_refl, Nat.le_refl, Int.cast_ofNat_Int, Tryd.f156, h1, h2, h3, e]
end Go.Proofs.YtlonlnfenbadbaaDoor

/- Part TFb. -/
namespace Go.Of
open Go Go.RowKit Go.Pm Go.Oc Go.Oh Go.Oc.Ix
structure Rd where
 a : Int
 i : Int
 b : Int
 j : Int
 v : Int
 w : Int
def Rd.cs (x : Rd) : List TV := [.int .i64 x.a, .int .i64 x.i, .int .i64 x.b, .int .i64 x.j, .int .i64 x.v, .int .i64 x.w]
def badR (T : List Int) (x : Rd) : Bool := !inB x.a 0 (T.length - 1) || (!inB x.b 0 (T.length - 1) || (!inB x.i 0 (nthI T x.a) || (!inB x.j 0 (nthI T x.b) || (!inB x.v (-200000) 200000 || !inB x.w 0 100000))))
theorem nat_of {n hi : Int} (h : inB n 0 hi = true) : ∃ k : Nat, n = k ∧ (k : Int) ≤ hi := by
 have := inB_iff.1 h
 exact ⟨n.toNat, by omega, by omega⟩
end Go.Of
namespace Go.Proofs.YtlonlnfenbadbaaDoor
open Go.RowKit Go.Pm Go.Oc Go.Oc.Ix Ix Go.Of Go.Ow
set_option maxRecDepth 100000
set_option linter.unusedVariables false
set_option maxHeartbeats 4000000

noncomputable def spFg : Pm.Spec := { spFw with gd := true }
@[go_sem] theorem spFg_p (f : FuncId) (xs : List TV) : spFg.p f xs = Pm.Spec.p ({ spFw with gd := true }) f xs := rfl
@[go_sem] theorem spFg_h (f : FuncId) (ps : List PV) (hl : List PO) : spFg.h f ps hl = Pm.Spec.h ({ spFw with gd := true }) f ps hl := rfl
@[go_sem] theorem spFg_y (Y : Pm.YS) (f : FuncId) (ps : List PV) (hl : List PO) : spFg.y Y f ps hl = Pm.Spec.y ({ spFw with gd := true }) Y f ps hl := rfl
@[go_sem] theorem spFg_fz (f : FuncId) : spFg.fz f = Pm.Spec.fz ({ spFw with gd := true }) f := rfl
@[go_sem] theorem spFg_fr (f : FuncId) : spFg.fr f = Pm.Spec.fr ({ spFw with gd := true }) f := rfl
@[go_sem] theorem spFg_yf (f : FuncId) : spFg.yf f = Pm.Spec.yf ({ spFw with gd := true }) f := rfl
@[go_sem] theorem spFg_gd : spFg.gd = Pm.Spec.gd ({ spFw with gd := true }) := rfl
@[go_sem] theorem spFg_mu (t : TypeId) : spFg.mu t = Pm.Spec.mu ({ spFw with gd := true }) t := rfl
@[go_sem] theorem spFg_nf (t : TypeId) : spFg.nf t = Pm.Spec.nf ({ spFw with gd := true }) t := rfl
theorem spFg_ok : SpecOk Tryd.prog spFg := ⟨spFw_ok.1, spFw_ok.2⟩
theorem fBadR3_c {T : List Int} (f : Bool) (most : Int) {ka kb : Nat} {xa xb : Int} (h2 : T.length ≤ 4) (hka : (ka : Int) ≤ T.length - 1) (hkb : (kb : Int) ≤ T.length - 1) (hxa : T[ka]? = some xa) (hxb : T[kb]? = some xb) (i j v w : Int) (c1 : inB ka 0 (T.length - 1) = true) (c2 : inB kb 0 (T.length - 1) = true)  (c3 : inB i 0 xa = false) : PCalls Tryd.prog 157 [.agg (Rd.cs ⟨ka, i, kb, j, v, w⟩), .cptr [.sl (ints T) T.length f, .int .i64 most]] (.bool true) := by
 have hw : IntKind.i64.wrap ((T.length : Int) - 1) = (T.length : Int) - 1 := wrap_in (by omega) (by omega)
 have da := ints_at hxa
 have db := ints_at hxb
 rw [Nat.mul_one] at da db
 have la : (ka : Int) < T.length := by omega
 have lb : (kb : Int) < T.length := by omega
 refine pcalls_by Tryd.mixes spFg_ok (fn := Tryd.f157) Tryd.func157 rfl (by kernel_rfl) (by show 2 ≤ _; decide) ?_
 simp (decide := true) (implicitDefEqProofs := false) (maxSteps := 4000000) only [go_sem, Nat.reduceAdd, Nat.reduceSub, Nat.reduceMul, Nat.reduceDiv, Nat.reduceMod, Nat.reduceLT, Nat.reduceLeDiff, Nat.reduceEqDiff, Nat.reduceBEq, Nat.reduceBNe, Nat.reduceGT, Int.reduceAdd, Int.reduceSub, Int.reduceMul, Int.reduceNeg, Int.reduceLT, Int.reduceLE, Int.reduceEq, Int.reduceNe, Int.reduceBEq, Int.reduceBNe, Int.reduceToNat, Int.reduceGT, Int.reduceGE, ↓reduceIte, decide_true, decide_false, eq_self, Nat.mul_one, Nat.zero_mul, Nat.one_mul, Int.le_refl, Nat.le_refl, Int.cast_ofNat_Int, Tryd.f157, Rd.cs, hw, c1, c2, c3, da, db, la, lb, Bool.not_false, Bool.true_or, Bool.not_true, Bool.false_or]
theorem fBadR4_c {T : List Int} (f : Bool) (most : Int) {ka kb : Nat} {xa xb : Int} (h2 : T.length ≤ 4) (hka : (ka : Int) ≤ T.length - 1) (hkb : (kb : Int) ≤ T.length - 1) (hxa : T[ka]? = some xa) (hxb : T[kb]? = some xb) (i j v w : Int) (c1 : inB ka 0 (T.length - 1) = true) (c2 : inB kb 0 (T.length - 1) = true) (c3 : inB i 0 xa = true) (c4 : inB j 0 xb = false) : PCalls Tryd.prog 157 [.agg (Rd.cs ⟨ka, i, kb, j, v, w⟩), .cptr [.sl (ints T) T.length f, .int .i64 most]] (.bool true) := by
 have hw : IntKind.i64.wrap ((T.length : Int) - 1) = (T.length : Int) - 1 := wrap_in (by omega) (by omega)
 have da := ints_at hxa
 have db := ints_at hxb
 rw [Nat.mul_one] at da db
 have la : (ka : Int) < T.length := by omega
 have lb : (kb : Int) < T.length := by omega
 refine pcalls_by Tryd.mixes spFg_ok (fn := Tryd.f157) Tryd.func157 rfl (by kernel_rfl) (by show 2 ≤ _; decide) ?_
 simp (decide := true) (implicitDefEqProofs := false) (maxSteps := 4000000) only [go_sem, Nat.reduceAdd, Nat.reduceSub, Nat.reduceMul, Nat.reduceDiv, Nat.reduceMod, Nat.reduceLT, Nat.reduceLeDiff, Nat.reduceEqDiff, Nat.reduceBEq, Nat.reduceBNe, Nat.reduceGT, Int.reduceAdd, Int.reduceSub, Int.reduceMul, Int.reduceNeg, Int.reduceLT, Int.reduceLE, Int.reduceEq, Int.reduceNe, Int.reduceBEq, Int.reduceBNe, Int.reduceToNat, Int.reduceGT, Int.reduceGE, ↓reduceIte, decide_true, decide_false, eq_self, Nat.mul_one, Nat.zero_mul, Nat.one_mul, Int.le_refl, Nat.le_refl, Int.cast_ofNat_Int, Tryd.f157, Rd.cs, hw, c1, c2, c3, c4, da, db, la, lb, Bool.not_false, Bool.true_or, Bool.not_true, Bool.false_or]
theorem fBadR5_c {T : List Int} (f : Bool) (most : Int) {ka kb : Nat} {xa xb : Int} (h2 : T.length ≤ 4) (hka : (ka : Int) ≤ T.length - 1) (hkb : (kb : Int) ≤ T.length - 1) (hxa : T[ka]? = some xa) (hxb : T[kb]? = some xb) (i j v w : Int) (c1 : inB ka 0 (T.length - 1) = true) (c2 : inB kb 0 (T.length - 1) = true) (c3 : inB i 0 xa = true) (c4 : inB j 0 xb = true) (c5 : inB v (-200000) 200000 = false) : PCalls Tryd.prog 157 [.agg (Rd.cs ⟨ka, i, kb, j, v, w⟩), .cptr [.sl (ints T) T.length f, .int .i64 most]] (.bool true) := by
 have hw : IntKind.i64.wrap ((T.length : Int) - 1) = (T.length : Int) - 1 := wrap_in (by omega) (by omega)
 have da := ints_at hxa
 have db := ints_at hxb
 rw [Nat.mul_one] at da db
 have la : (ka : Int) < T.length := by omega
 have lb : (kb : Int) < T.length := by omega
 refine pcalls_by Tryd.mixes spFg_ok (fn := Tryd.f157) Tryd.func157 rfl (by kernel_rfl) (by show 2 ≤ _; decide) ?_
 simp (decide := true) (implicitDefEqProofs := false) (maxSteps := 4000000) only [go_sem, Nat.reduceAdd, Nat.reduceSub, Nat.reduceMul, Nat.reduceDiv, Nat.reduceMod, Nat.reduceLT, Nat.reduceLeDiff, Nat.reduceEqDiff, Nat.reduceBEq, Nat.reduceBNe, Nat.reduceGT, Int.reduceAdd, Int.reduceSub, Int.reduceMul, Int.reduceNeg, Int.reduceLT, Int.reduceLE, Int.reduceEq, Int.reduceNe, Int.reduceBEq, Int.reduceBNe, Int.reduceToNat, Int.reduceGT, Int.reduceGE, ↓reduceIte, decide_true, decide_false, eq_self, Nat.mul_one, Nat.zero_mul, Nat.one_mul, Int.le_refl, Nat.le_refl, Int.cast_ofNat_Int, Tryd.f157, Rd.cs, hw, c1, c2, c3, c4, c5, da, db, la, lb, Bool.not_false, Bool.true_or, Bool.not_true, Bool.false_or]
theorem fBadR6_c {T : List Int} (f : Bool) (most : Int) {ka kb : Nat} {xa xb : Int} (h2 : T.length ≤ 4) (hka : (ka : Int) ≤ T.length - 1) (hkb : (kb : Int) ≤ T.length - 1) (hxa : T[ka]? = some xa) (hxb : T[kb]? = some xb) (i j v w : Int) (c1 : inB ka 0 (T.length - 1) = true) (c2 : inB kb 0 (T.length - 1) = true) (c3 : inB i 0 xa = true) (c4 : inB j 0 xb = true) (c5 : inB v (-200000) 200000 = true) : PCalls Tryd.prog 157 [.agg (Rd.cs ⟨ka, i, kb, j, v, w⟩), .cptr [.sl (ints T) T.length f, .int .i64 most]] (.bool (!inB w 0 100000)) := by
 have hw : IntKind.i64.wrap ((T.length : Int) - 1) = (T.length : Int) - 1 := wrap_in (by omega) (by omega)
 have da := ints_at hxa
 have db := ints_at hxb
 rw [Nat.mul_one] at da db
 have la : (ka : Int) < T.length := by omega
 have lb : (kb : Int) < T.length := by omega
 refine pcalls_by Tryd.mixes spFg_ok (fn := Tryd.f157) Tryd.func157 rfl (by kernel_rfl) (by show 2 ≤ _; decide) ?_
 simp (decide := true) (implicitDefEqProofs := false) (maxSteps := 4000000) only [go_sem, Nat.reduceAdd, Nat.reduceSub, Nat.reduceMul, Nat.reduceDiv, Nat.reduceMod, Nat.reduceLT, Nat.reduceLeDiff, Nat.reduceEqDiff, Nat.reduceBEq, Nat.reduceBNe, Nat.reduceGT, Int.reduceAdd, Int.reduceSub, Int.reduceMul, Int.reduceNeg, Int.reduceLT, Int.reduceLE, Int.reduceEq, Int.reduceNe, Int.reduceBEq, Int.reduceBNe, Int.reduceToNat, Int.reduceGT, Int.reduceGE, ↓reduceIte, decide_true, decide_false, eq_self, Nat.mul_one, Nat.zero_mul, Nat.one_mul, Int.le_refl, Nat.le_refl, Int.cast_ofNat_Int, Tryd.f157, Rd.cs, hw, c1, c2, c3, c4, c5, da, db, la, lb, Bool.not_false, Bool.true_or, Bool.not_true, Bool.false_or]
theorem fBadRb_c {T : List Int} (f : Bool) (most : Int) {ka kb : Nat} {xa xb : Int} (h2 : T.length ≤ 4) (hka : (ka : Int) ≤ T.length - 1) (hkb : (kb : Int) ≤ T.length - 1) (hxa : T[ka]? = some xa) (hxb : T[kb]? = some xb) (i j v w : Int) (c1 : inB ka 0 (T.length - 1) = true) (c2 : inB kb 0 (T.length - 1) = true) : PCalls Tryd.prog 157 [.agg (Rd.cs ⟨ka, i, kb, j, v, w⟩), .cptr [.sl (ints T) T.length f, .int .i64 most]] (.bool (!inB i 0 xa || (!inB j 0 xb || (!inB v (-200000) 200000 || !inB w 0 100000)))) := by
 cases c3 : inB i 0 xa with
 | false => exact fBadR3_c f most h2 hka hkb hxa hxb i j v w c1 c2 c3
 | true =>
  cases c4 : inB j 0 xb with
  | false => exact fBadR4_c f most h2 hka hkb hxa hxb i j v w c1 c2 c3 c4
  | true =>
   cases c5 : inB v (-200000) 200000 with
   | false => exact fBadR5_c f most h2 hka hkb hxa hxb i j v w c1 c2 c3 c4 c5
   | true => exact fBadR6_c f most h2 hka hkb hxa hxb i j v w c1 c2 c3 c4 c5
theorem fBadR_c {T : List Int} (f : Bool) (most : Int) (x : Rd) (h1 : 1 ≤ T.length) (h2 : T.length ≤ 4) : PCalls Tryd.prog 157 [.agg x.cs, .cptr [.sl (ints T) T.length f, .int .i64 most]] (.bool (badR T x)) := by
 obtain ⟨a, i, b, j, v, w⟩ := x
 have e : badR T ⟨a, i, b, j, v, w⟩ = (!inB a 0 (T.length - 1) || (!inB b 0 (T.length - 1) || (!inB i 0 (nthI T a) || (!inB j 0 (nthI T b) || (!inB v (-200000) 200000 || !inB w 0 100000))))) := rfl
 have hw : IntKind.i64.wrap ((T.length : Int) - 1) = (T.length : Int) - 1 := wrap_in (by omega) (by omega)
 rw [e]
 cases c1 : inB a 0 (T.length - 1) with
 | false =>
  refine pcalls_by Tryd.mixes spFg_ok (fn := Tryd.f157) Tryd.func157 rfl (by kernel_rfl) (by show 2 ≤ _; decide) ?_
  simp (decide := true) (implicitDefEqProofs := false) (maxSteps := 4000000) only [go_sem, Nat.reduceAdd, Nat.reduceSub, Nat.reduceMul, Nat.reduceDiv, Nat.reduceMod, Nat.reduceLT, Nat.reduceLeDiff, Nat.reduceEqDiff, Nat.reduceBEq, Nat.reduceBNe, Nat.reduceGT, Int.reduceAdd, Int.reduceSub, Int.reduceMul, Int.reduceNeg, Int.reduceLT, Int.reduceLE, Int.reduceEq, Int.reduceNe, Int.reduceBEq, Int.reduceBNe, Int.reduceToNat, Int.reduceGT, Int.reduceGE, ↓reduceIte, decide_true, decide_false, eq_self, Nat.mul_one, Nat.zero_mul, Nat.one_mul, Int.le_refl, Nat.le_refl, Int.cast_ofNat_Int, Tryd.f157, Rd.cs, hw, c1, Bool.not_false, Bool.true_or]
 | true =>
  cases c2 : inB b 0 (T.length - 1) with
  | false =>
   refine pcalls_by Tryd.mixes spFg_ok (fn := Tryd.f157) Tryd.func157 rfl (by kernel_rfl) (by show 2 ≤ _; decide) ?_
   simp (decide := true) (implicitDefEqProofs := false) (maxSteps := 4000000) only [go_sem, Nat.reduceAdd, Nat.reduceSub, Nat.reduceMul, Nat.reduceDiv, Nat.reduceMod, Nat.reduceLT, Nat.reduceLeDiff, Nat.reduceEqDiff, Nat.reduceBEq, Nat.reduceBNe, Nat.reduceGT, Int.reduceAdd, Int.reduceSub, Int.reduceMul, Int.reduceNeg, Int.reduceLT, Int.reduceLE, Int.reduceEq, Int.reduceNe, Int.reduceBEq, Int.reduceBNe, Int.reduceToNat, Int.reduceGT, Int.reduceGE, ↓reduceIte, decide_true, decide_false, eq_self, Nat.mul_one, Nat.zero_mul, Nat.one_mul, Int.le_refl, Nat.le_refl, Int.cast_ofNat_Int, Tryd.f157, Rd.cs, hw, c1, c2, Bool.not_false, Bool.true_or, Bool.not_true, Bool.false_or]
  | true =>
   obtain ⟨ka, rfl, hka⟩ := nat_of c1
   obtain ⟨kb, rfl, hkb⟩ := nat_of c2
   obtain ⟨xa, hxa⟩ := get_lt (l := T) (k := ka) (by omega)
   obtain ⟨xb, hxb⟩ := get_lt (l := T) (k := kb) (by omega)
   have na := nthI_at hxa
   have nb := nthI_at hxb
   have da := ints_at hxa
   have db := ints_at hxb
   rw [Nat.mul_one] at da db
   have la : (ka : Int) < T.length := by omega
   have lb : (kb : Int) < T.length := by omega
   rw [na, nb]
   simp only [Bool.not_true, Bool.false_or]
   exact fBadRb_c f most h2 hka hkb hxa hxb i j v w c1 c2
end Go.Proofs.YtlonlnfenbadbaaDoor

/- Part TFc. -/
namespace Go.Pm
open Go Go.RowKit
def Spec.frz (sp : Spec) : Spec := { sp with fz := fun _ => true }
theorem Spec.frz_ok {P : Program} {sp : Spec} (h : SpecOk P sp) : SpecOk P sp.frz := ⟨h.1, h.2⟩
section
variable (f : FuncId) (sp : Spec) (al : List TV) (ps : List PV) (hl : List PO) (t : TypeId) (Y : YS)
@[go_sem] theorem frz_p : sp.frz.p f al = sp.p f al := rfl
@[go_sem] theorem frz_h : sp.frz.h f ps hl = sp.h f ps hl := rfl
@[go_sem] theorem frz_y : sp.frz.y Y f ps hl = sp.y Y f ps hl := rfl
@[go_sem] theorem frz_fz : sp.frz.fz f = true := rfl
@[go_sem] theorem frz_fr : sp.frz.fr f = sp.fr f := rfl
@[go_sem] theorem frz_yf : sp.frz.yf f = sp.yf f := rfl
@[go_sem] theorem frz_gd : sp.frz.gd = sp.gd := rfl
@[go_sem] theorem frz_mu : sp.frz.mu t = sp.mu t := rfl
@[go_sem] theorem frz_nf : sp.frz.nf t = sp.nf t := rfl
end
def Spec.gdt (sp : Spec) : Spec := { sp with gd := true }
theorem Spec.gdt_ok {P : Program} {sp : Spec} (h : SpecOk P sp) : SpecOk P sp.gdt := ⟨h.1, h.2⟩
section
variable (f : FuncId) (sp : Spec) (al : List TV) (ps : List PV) (hl : List PO) (t : TypeId) (Y : YS)
@[go_sem] theorem gdt_p : sp.gdt.p f al = sp.p f al := rfl
@[go_sem] theorem gdt_h : sp.gdt.h f ps hl = sp.h f ps hl := rfl
@[go_sem] theorem gdt_y : sp.gdt.y Y f ps hl = sp.y Y f ps hl := rfl
@[go_sem] theorem gdt_fz : sp.gdt.fz f = sp.fz f := rfl
@[go_sem] theorem gdt_fr : sp.gdt.fr f = sp.fr f := rfl
@[go_sem] theorem gdt_yf : sp.gdt.yf f = sp.yf f := rfl
@[go_sem] theorem gdt_gd : sp.gdt.gd = true := rfl
@[go_sem] theorem gdt_mu : sp.gdt.mu t = sp.mu t := rfl
@[go_sem] theorem gdt_nf : sp.gdt.nf t = sp.nf t := rfl
end
end Go.Pm
namespace Go.Of
open Go Go.RowKit Go.Pm Go.Oc Go.Oh Go.Oc.Ix
def fIx2 {α : Type} (p : α → Bool) (l : List α) : Int := match l.findIdx? p with | some i => (i : Int) | none => -1
theorem fIx2_iff {α : Type} (p : α → Bool) (l : List α) : decide (fIx2 p l ≥ 0) = l.any p := by
 unfold fIx2
 cases h : l.findIdx? p with
 | none =>
  rw [List.findIdx?_eq_none_iff] at h
  have : l.any p = false := by
   rw [List.any_eq_false]; intro x hx; rw [h x hx]; decide
  rw [this]; rfl
 | some i =>
  obtain ⟨hi, h1, _⟩ := List.findIdx?_eq_some_iff_getElem.1 h
  have : l.any p = true := List.any_eq_true.2 ⟨l[i], List.getElem_mem _, h1⟩
  rw [this]; simp
theorem fIx2_hit {α : Type} {p : α → Bool} {l : List α} {k : Nat} {x : α} (hno : ∀ (i : Nat) (y : α), i < k → l[i]? = some y → p y = false) (hx : l[k]? = some x) (hp : p x = true) : fIx2 p l = k := by
 unfold fIx2
 have hk := (List.getElem?_eq_some_iff.1 hx).1
 have he := (List.getElem?_eq_some_iff.1 hx).2
 have : l.findIdx? p = some k := by
  rw [List.findIdx?_eq_some_iff_getElem]
  refine ⟨hk, by rw [he]; exact hp, fun j hj => ?_⟩
  have := hno j _ hj (List.getElem?_eq_getElem (by omega))
  rw [this]; decide
 rw [this]
theorem fIx2_none {α : Type} {p : α → Bool} {l : List α} (hno : ∀ (i : Nat) (y : α), i < l.length → l[i]? = some y → p y = false) : fIx2 p l = -1 := by
 unfold fIx2
 have : l.findIdx? p = none := by
  rw [List.findIdx?_eq_none_iff]
  intro x hx
  obtain ⟨i, hi⟩ := List.mem_iff_getElem?.1 hx
  exact hno i x (List.getElem?_eq_some_iff.1 hi).1 hi
 rw [this]
theorem Rd.len (x : Rd) : x.cs.length = 6 := rfl
theorem Rd_at {l : List Rd} {k : Nat} {x : Rd} (h : l[k]? = some x) : (l.flatMap Rd.cs).drop (k * 6) = x.cs ++ (l.drop (k + 1)).flatMap Rd.cs := flat_at Rd.cs (n := 6) (fun _ => rfl) h
theorem Rd_len (l : List Rd) : (l.flatMap Rd.cs).length = l.length * 6 := flat_len Rd.cs (fun _ => rfl) l
open Classical in
noncomputable def rdP (caps : List TV) (p : Rd → Bool) (l : List Rd) : List TV → Option TV
 | .agg [.int .i64 a, .int .i64 i, .int .i64 b, .int .i64 j, .int .i64 v, .int .i64 w] :: c => if c = caps ∧ (⟨a, i, b, j, v, w⟩ : Rd) ∈ l then some (.bool (p ⟨a, i, b, j, v, w⟩)) else none
 | _ => none
theorem rdP_ok {P : Program} {f : FuncId} {caps : List TV} {p : Rd → Bool} {l : List Rd} (h : ∀ x ∈ l, PCalls P f (.agg x.cs :: caps) (.bool (p x))) : ∀ al r, rdP caps p l al = some r → PCalls P f al r := by
 intro al r e
 unfold rdP at e
 split at e
 ·split at e
  ·rename_i hc; obtain ⟨rfl, hm⟩ := hc; cases e; exact h _ hm
  ·cases e
 ·cases e
attribute [go_sem] rdP
def askedE (T : List Int) (most : Int) (l : List Rd) : Int := if setB T most then (if decide ((l.length : Int) > 24) || l.any (badR T) then 24 else 0) else 23
end Go.Of
namespace Go.Proofs.YtlonlnfenbadbaaDoor
open Go.RowKit Go.Pm Go.Oc Go.Oc.Ix Ix Go.Of Go.Ow
set_option maxRecDepth 100000
set_option linter.unusedVariables false
set_option maxHeartbeats 4000000

theorem fIndexR_c {fid : FuncId} {caps : List TV} {p : Rd → Bool} {l : List Rd} {s : TV} (hl : IsRow Rd.cs s l) (hll : l.length ≤ 2932031007402) (hc : ∀ x ∈ l, PCalls Tryd.prog fid (.agg x.cs :: caps) (.bool (p x))) : PCalls Tryd.prog 158 [s, .fn fid [] caps] (.int .i64 (fIx2 p l)) := by
 refine pcalls_by Tryd.mixes (Spec.one_ok (rdP_ok hc) noSpec_ok) (fn := Tryd.f158) Tryd.func158 rfl (by kernel_rfl) (by show 2 ≤ _; decide) ?_
 rcases hl with ⟨rfl, rfl⟩ | ⟨f, rfl⟩
 ·simp (decide := true) (maxSteps := 4000000) only [go_sem, Nat.reduceAdd, Nat.reduceSub, Nat.reduceMul, Nat.reduceDiv, Nat.reduceMod, Nat.reduceLT, Nat.reduceLeDiff, Nat.reduceEqDiff, Nat.reduceBEq, Nat.reduceBNe, Nat.reduceGT, Int.reduceAdd, Int.reduceSub, Int.reduceMul, Int.reduceNeg, Int.reduceLT, Int.reduceLE, Int.reduceEq, Int.reduceNe, Int.reduceBEq, Int.reduceBNe, Int.reduceToNat, Int.reduceGT, Int.reduceGE, ↓reduceIte, decide_true, decide_false, eq_self, Nat.mul_one, Nat.zero_mul, Nat.one_mul, Int.le_refl, Nat.le_refl, Int.cast_ofNat_Int, Tryd.f158]
  refine pwpC_loopU (A := Unit) [0, 1, 4, 7] (fun _ => [(8, .t (.int .i64 0))]) (fun _ => []) (fun _ => 0) () (by decide) (fun _ => by rfl) ?_ fun Q1 hQ1 _ I1 hI1 => ?_
  ·simp (decide := true) (maxSteps := 4000000) only [go_sem, Nat.reduceAdd, Nat.reduceSub, Nat.reduceMul, Nat.reduceDiv, Nat.reduceMod, Nat.reduceLT, Nat.reduceLeDiff, Nat.reduceEqDiff, Nat.reduceBEq, Nat.reduceBNe, Nat.reduceGT, Int.reduceAdd, Int.reduceSub, Int.reduceMul, Int.reduceNeg, Int.reduceLT, Int.reduceLE, Int.reduceEq, Int.reduceNe, Int.reduceBEq, Int.reduceBNe, Int.reduceToNat, Int.reduceGT, Int.reduceGE, ↓reduceIte, decide_true, decide_false, eq_self, Nat.mul_one, Nat.zero_mul, Nat.one_mul, Int.le_refl, Nat.le_refl, Int.cast_ofNat_Int]
  ·simp (decide := true) (maxSteps := 4000000) only [go_sem, Nat.reduceAdd, Nat.reduceSub, Nat.reduceMul, Nat.reduceDiv, Nat.reduceMod, Nat.reduceLT, Nat.reduceLeDiff, Nat.reduceEqDiff, Nat.reduceBEq, Nat.reduceBNe, Nat.reduceGT, Int.reduceAdd, Int.reduceSub, Int.reduceMul, Int.reduceNeg, Int.reduceLT, Int.reduceLE, Int.reduceEq, Int.reduceNe, Int.reduceBEq, Int.reduceBNe, Int.reduceToNat, Int.reduceGT, Int.reduceGE, ↓reduceIte, decide_true, decide_false, eq_self, Nat.mul_one, Nat.zero_mul, Nat.one_mul, Int.le_refl, Nat.le_refl, Int.cast_ofNat_Int]
   refine hQ1 _ _ ?_
   simp (decide := true) (maxSteps := 4000000) only [go_sem, Nat.reduceAdd, Nat.reduceSub, Nat.reduceMul, Nat.reduceDiv, Nat.reduceMod, Nat.reduceLT, Nat.reduceLeDiff, Nat.reduceEqDiff, Nat.reduceBEq, Nat.reduceBNe, Nat.reduceGT, Int.reduceAdd, Int.reduceSub, Int.reduceMul, Int.reduceNeg, Int.reduceLT, Int.reduceLE, Int.reduceEq, Int.reduceNe, Int.reduceBEq, Int.reduceBNe, Int.reduceToNat, Int.reduceGT, Int.reduceGE, ↓reduceIte, decide_true, decide_false, eq_self, Nat.mul_one, Nat.zero_mul, Nat.one_mul, Int.le_refl, Nat.le_refl, Int.cast_ofNat_Int]
   first | done | rfl
 ·simp (decide := true) (maxSteps := 4000000) only [go_sem, Nat.reduceAdd, Nat.reduceSub, Nat.reduceMul, Nat.reduceDiv, Nat.reduceMod, Nat.reduceLT, Nat.reduceLeDiff, Nat.reduceEqDiff, Nat.reduceBEq, Nat.reduceBNe, Nat.reduceGT, Int.reduceAdd, Int.reduceSub, Int.reduceMul, Int.reduceNeg, Int.reduceLT, Int.reduceLE, Int.reduceEq, Int.reduceNe, Int.reduceBEq, Int.reduceBNe, Int.reduceToNat, Int.reduceGT, Int.reduceGE, ↓reduceIte, decide_true, decide_false, eq_self, Nat.mul_one, Nat.zero_mul, Nat.one_mul, Int.le_refl, Nat.le_refl, Int.cast_ofNat_Int, Tryd.f158]
  have hlen := Rd_len l
  refine pwpC_loopU (A := { k : Nat // k ≤ l.length ∧ ∀ (i : Nat) (y : Rd), i < k → l[i]? = some y → p y = false }) [0, 1, 4, 7] (fun k => [(8, .t (.int .i64 k.1))]) (fun _ => []) (fun k => l.length - k.1) ⟨0, by omega, fun i y h => by omega⟩ (by decide) (fun _ => by rfl) ?_ fun Q1 hQ1 ⟨k, hk, hno⟩ I1 hI1 => ?_
  ·simp (decide := true) (maxSteps := 4000000) only [go_sem, Nat.reduceAdd, Nat.reduceSub, Nat.reduceMul, Nat.reduceDiv, Nat.reduceMod, Nat.reduceLT, Nat.reduceLeDiff, Nat.reduceEqDiff, Nat.reduceBEq, Nat.reduceBNe, Nat.reduceGT, Int.reduceAdd, Int.reduceSub, Int.reduceMul, Int.reduceNeg, Int.reduceLT, Int.reduceLE, Int.reduceEq, Int.reduceNe, Int.reduceBEq, Int.reduceBNe, Int.reduceToNat, Int.reduceGT, Int.reduceGE, ↓reduceIte, decide_true, decide_false, eq_self, Nat.mul_one, Nat.zero_mul, Nat.one_mul, Int.le_refl, Nat.le_refl, Int.cast_ofNat_Int]
  ·by_cases hlt : (k : Int) < l.length
   ·obtain ⟨x, hx⟩ := get_lt hlt
    have hd := Rd_at hx
    have hm : x ∈ l := List.mem_of_getElem? hx
    have hc1 : IntKind.i64.wrap (k + 1) = ((k + 1 : Nat) : Int) := by rw [wrap_in (by omega) (by omega)]; omega
    have hle : k * 6 + 6 ≤ (l.flatMap Rd.cs).length := by rw [hlen]; omega
    cases hb : p x with
    | true =>
     have e := fIx2_hit hno hx hb
     obtain ⟨a, i, b, j, v, w⟩ := x
     simp (decide := true) (maxSteps := 4000000) only [go_sem, Nat.reduceAdd, Nat.reduceSub, Nat.reduceMul, Nat.reduceDiv, Nat.reduceMod, Nat.reduceLT, Nat.reduceLeDiff, Nat.reduceEqDiff, Nat.reduceBEq, Nat.reduceBNe, Nat.reduceGT, Int.reduceAdd, Int.reduceSub, Int.reduceMul, Int.reduceNeg, Int.reduceLT, Int.reduceLE, Int.reduceEq, Int.reduceNe, Int.reduceBEq, Int.reduceBNe, Int.reduceToNat, Int.reduceGT, Int.reduceGE, ↓reduceIte, decide_true, decide_false, eq_self, Nat.mul_one, Nat.zero_mul, Nat.one_mul, Int.le_refl, Nat.le_refl, Int.cast_ofNat_Int, hlt, hd, hb, hle, Rd.cs, hm]
     refine hQ1 _ _ ?_
     simp (decide := true) (maxSteps := 4000000) only [go_sem, Nat.reduceAdd, Nat.reduceSub, Nat.reduceMul, Nat.reduceDiv, Nat.reduceMod, Nat.reduceLT, Nat.reduceLeDiff, Nat.reduceEqDiff, Nat.reduceBEq, Nat.reduceBNe, Nat.reduceGT, Int.reduceAdd, Int.reduceSub, Int.reduceMul, Int.reduceNeg, Int.reduceLT, Int.reduceLE, Int.reduceEq, Int.reduceNe, Int.reduceBEq, Int.reduceBNe, Int.reduceToNat, Int.reduceGT, Int.reduceGE, ↓reduceIte, decide_true, decide_false, eq_self, Nat.mul_one, Nat.zero_mul, Nat.one_mul, Int.le_refl, Nat.le_refl, Int.cast_ofNat_Int, e]
    | false =>
     have hno' : ∀ (i : Nat) (y : Rd), i < k + 1 → l[i]? = some y → p y = false := fun i y hi hy => by
      by_cases e : i = k
      ·subst e; rw [hx] at hy; cases hy; exact hb
      ·exact hno i y (by omega) hy
     obtain ⟨a, i, b, j, v, w⟩ := x
     simp (decide := true) (maxSteps := 4000000) only [go_sem, Nat.reduceAdd, Nat.reduceSub, Nat.reduceMul, Nat.reduceDiv, Nat.reduceMod, Nat.reduceLT, Nat.reduceLeDiff, Nat.reduceEqDiff, Nat.reduceBEq, Nat.reduceBNe, Nat.reduceGT, Int.reduceAdd, Int.reduceSub, Int.reduceMul, Int.reduceNeg, Int.reduceLT, Int.reduceLE, Int.reduceEq, Int.reduceNe, Int.reduceBEq, Int.reduceBNe, Int.reduceToNat, Int.reduceGT, Int.reduceGE, ↓reduceIte, decide_true, decide_false, eq_self, Nat.mul_one, Nat.zero_mul, Nat.one_mul, Int.le_refl, Nat.le_refl, Int.cast_ofNat_Int, hlt, hd, hb, hle, Rd.cs, hm]
     refine hI1 _ ⟨k + 1, by omega, hno'⟩ (by simp only; omega) ?_
     simp (decide := true) (maxSteps := 4000000) only [go_sem, Nat.reduceAdd, Nat.reduceSub, Nat.reduceMul, Nat.reduceDiv, Nat.reduceMod, Nat.reduceLT, Nat.reduceLeDiff, Nat.reduceEqDiff, Nat.reduceBEq, Nat.reduceBNe, Nat.reduceGT, Int.reduceAdd, Int.reduceSub, Int.reduceMul, Int.reduceNeg, Int.reduceLT, Int.reduceLE, Int.reduceEq, Int.reduceNe, Int.reduceBEq, Int.reduceBNe, Int.reduceToNat, Int.reduceGT, Int.reduceGE, ↓reduceIte, decide_true, decide_false, eq_self, Nat.mul_one, Nat.zero_mul, Nat.one_mul, Int.le_refl, Nat.le_refl, Int.cast_ofNat_Int, hc1]
   ·have hke : k = l.length := by omega
    subst hke
    have e : fIx2 p l = -1 := fIx2_none hno
    simp (decide := true) (maxSteps := 4000000) only [go_sem, Nat.reduceAdd, Nat.reduceSub, Nat.reduceMul, Nat.reduceDiv, Nat.reduceMod, Nat.reduceLT, Nat.reduceLeDiff, Nat.reduceEqDiff, Nat.reduceBEq, Nat.reduceBNe, Nat.reduceGT, Int.reduceAdd, Int.reduceSub, Int.reduceMul, Int.reduceNeg, Int.reduceLT, Int.reduceLE, Int.reduceEq, Int.reduceNe, Int.reduceBEq, Int.reduceBNe, Int.reduceToNat, Int.reduceGT, Int.reduceGE, ↓reduceIte, decide_true, decide_false, eq_self, Nat.mul_one, Nat.zero_mul, Nat.one_mul, Int.le_refl, Nat.le_refl, Int.cast_ofNat_Int, hlt]
    refine hQ1 _ _ ?_
    simp (decide := true) (maxSteps := 4000000) only [go_sem, Nat.reduceAdd, Nat.reduceSub, Nat.reduceMul, Nat.reduceDiv, Nat.reduceMod, Nat.reduceLT, Nat.reduceLeDiff, Nat.reduceEqDiff, Nat.reduceBEq, Nat.reduceBNe, Nat.reduceGT, Int.reduceAdd, Int.reduceSub, Int.reduceMul, Int.reduceNeg, Int.reduceLT, Int.reduceLE, Int.reduceEq, Int.reduceNe, Int.reduceBEq, Int.reduceBNe, Int.reduceToNat, Int.reduceGT, Int.reduceGE, ↓reduceIte, decide_true, decide_false, eq_self, Nat.mul_one, Nat.zero_mul, Nat.one_mul, Int.le_refl, Nat.le_refl, Int.cast_ofNat_Int, e]
theorem fContainsR_c {fid : FuncId} {caps : List TV} {p : Rd → Bool} {l : List Rd} {s : TV} (hl : IsRow Rd.cs s l) (hll : l.length ≤ 2932031007402) (hc : ∀ x ∈ l, PCalls Tryd.prog fid (.agg x.cs :: caps) (.bool (p x))) : PCalls Tryd.prog 127 [s, .fn fid [] caps] (.bool (l.any p)) := by
 have hb := fIx2_iff p l
 refine pcalls_by Tryd.mixes (Spec.one_ok (oneP_ok (fIndexR_c hl hll hc)) noSpec_ok) (fn := Tryd.f127) Tryd.func127 rfl (by kernel_rfl) (by show 2 ≤ _; decide) ?_
 simp (decide := true) (maxSteps := 4000000) only [go_sem, Nat.reduceAdd, Nat.reduceSub, Nat.reduceMul, Nat.reduceDiv, Nat.reduceMod, Nat.reduceLT, Nat.reduceLeDiff, Nat.reduceEqDiff, Nat.reduceBEq, Nat.reduceBNe, Nat.reduceGT, Int.reduceAdd, Int.reduceSub, Int.reduceMul, Int.reduceNeg, Int.reduceLT, Int.reduceLE, Int.reduceEq, Int.reduceNe, Int.reduceBEq, Int.reduceBNe, Int.reduceToNat, Int.reduceGT, Int.reduceGE, ↓reduceIte, decide_true, decide_false, eq_self, Nat.mul_one, Nat.zero_mul, Nat.one_mul, Int.le_refl, Nat.le_refl, Int.cast_ofNat_Int, Tryd.f127, hb]
theorem fAsked_c {T : List Int} {sT : TV} (most : Int) (hT : IsRow ic sT T) (hTl : T.length ≤ 17592186044415) {l : List Rd} {s : TV} (hl : IsRow Rd.cs s l) (hll : l.length ≤ 2932031007402) : PCalls Tryd.prog 124 [.agg [sT, .int .i64 most], s] (.int .i64 (askedE T most l)) := by
 have hS := fIsSet_c most hT hTl
 unfold askedE
 cases h1 : setB T most with
 | false =>
  rw [h1] at hS
  refine pcalls_by Tryd.mixes (Spec.one_ok (oneP_ok hS) noSpec_ok) (fn := Tryd.f124) Tryd.func124 rfl (by kernel_rfl) (by show 2 ≤ _; decide) ?_
  simp (decide := true) (maxSteps := 4000000) only [go_sem, Nat.reduceAdd, Nat.reduceSub, Nat.reduceMul, Nat.reduceDiv, Nat.reduceMod, Nat.reduceLT, Nat.reduceLeDiff, Nat.reduceEqDiff, Nat.reduceBEq, Nat.reduceBNe, Nat.reduceGT, Int.reduceAdd, Int.reduceSub, Int.reduceMul, Int.reduceNeg, Int.reduceLT, Int.reduceLE, Int.reduceEq, Int.reduceNe, Int.reduceBEq, Int.reduceBNe, Int.reduceToNat, Int.reduceGT, Int.reduceGE, ↓reduceIte, decide_true, decide_false, eq_self, Nat.mul_one, Nat.zero_mul, Nat.one_mul, Int.le_refl, Nat.le_refl, Int.cast_ofNat_Int, Tryd.f124]
 | true =>
  have hb := h1
  unfold setB at hb
  simp only [Bool.and_eq_true, inB_iff] at hb
  obtain ⟨fT, rfl⟩ := hT.ne (by omega)
  rw [ic_ints] at *
  rw [h1] at hS
  have hC := fContainsR_c (p := badR T) (fid := 157) (caps := [.cptr [.sl (ints T) T.length fT, .int .i64 most]]) hl hll (fun x _ => fBadR_c fT most x (by omega) (by omega))
  refine pcalls_by Tryd.mixes (Spec.frz_ok (Spec.one_ok (oneP_ok hS) (Spec.one_ok (oneP_ok hC) noSpec_ok))) (fn := Tryd.f124) Tryd.func124 rfl (by kernel_rfl) (by show 2 ≤ _; decide) ?_
  rcases hl with ⟨rfl, rfl⟩ | ⟨f, rfl⟩
  ·simp (decide := true) (maxSteps := 4000000) only [go_sem, Nat.reduceAdd, Nat.reduceSub, Nat.reduceMul, Nat.reduceDiv, Nat.reduceMod, Nat.reduceLT, Nat.reduceLeDiff, Nat.reduceEqDiff, Nat.reduceBEq, Nat.reduceBNe, Nat.reduceGT, Int.reduceAdd, Int.reduceSub, Int.reduceMul, Int.reduceNeg, Int.reduceLT, Int.reduceLE, Int.reduceEq, Int.reduceNe, Int.reduceBEq, Int.reduceBNe, Int.reduceToNat, Int.reduceGT, Int.reduceGE, ↓reduceIte, decide_true, decide_false, eq_self, Nat.mul_one, Nat.zero_mul, Nat.one_mul, Int.le_refl, Nat.le_refl, Int.cast_ofNat_Int, Tryd.f124, List.any_nil]
  ·by_cases h24 : (l.length : Int) > 24
   ·cases ha : l.any (badR T) <;> simp (decide := true) (maxSteps := 4000000) only [go_sem, Nat.reduceAdd, Nat.reduceSub, Nat.reduceMul, Nat.reduceDiv, Nat.reduceMod, Nat.reduceLT, Nat.reduceLeDiff, Nat.reduceEqDiff, Nat.reduceBEq, Nat.reduceBNe, Nat.reduceGT, Int.reduceAdd, Int.reduceSub, Int.reduceMul, Int.reduceNeg, Int.reduceLT, Int.reduceLE, Int.reduceEq, Int.reduceNe, Int.reduceBEq, Int.reduceBNe, Int.reduceToNat, Int.reduceGT, Int.reduceGE, ↓reduceIte, decide_true, decide_false, eq_self, Nat.mul_one, Nat.zero_mul, Nat.one_mul, Int.le_refl, Nat.le_refl, Int.cast_ofNat_Int, Tryd.f124, h24, ha]
   ·cases ha : l.any (badR T) <;> simp (decide := true) (maxSteps := 4000000) only [go_sem, Nat.reduceAdd, Nat.reduceSub, Nat.reduceMul, Nat.reduceDiv, Nat.reduceMod, Nat.reduceLT, Nat.reduceLeDiff, Nat.reduceEqDiff, Nat.reduceBEq, Nat.reduceBNe, Nat.reduceGT, Int.reduceAdd, Int.reduceSub, Int.reduceMul, Int.reduceNeg, Int.reduceLT, Int.reduceLE, Int.reduceEq, Int.reduceNe, Int.reduceBEq, Int.reduceBNe, Int.reduceToNat, Int.reduceGT, Int.reduceGE, ↓reduceIte, decide_true, decide_false, eq_self, Nat.mul_one, Nat.zero_mul, Nat.one_mul, Int.le_refl, Nat.le_refl, Int.cast_ofNat_Int, Tryd.f124, h24, ha]
end Go.Proofs.YtlonlnfenbadbaaDoor

/- Part TFd. -/
namespace Go.Of
open Go Go.RowKit Go.Pm Go.Oc Go.Oh Go.Oc.Ix
def c36 (f : Nat → Int) : List PV := (List.range 36).map fun v => .t (.int .i64 (f v))
def t36 (f : Nat → Int) : List TV := (List.range 36).map fun v => .int .i64 (f v)
theorem c36_len (f : Nat → Int) : (c36 f).length = 36 := by simp [c36]
theorem t36_len (f : Nat → Int) : (t36 f).length = 36 := by simp [t36]
theorem t36_map (f : Nat → Int) : (t36 f).map PV.t = c36 f := by simp [t36, c36]
theorem c36_at (f : Nat → Int) {o : Nat} (h : o < 36) : (c36 f)[o]? = some (.t (.int .i64 (f o))) := by simp [c36, h]
theorem c36_take (f : Nat → Int) : (c36 f).take 36 = c36 f := List.take_of_length_le (by rw [c36_len]; exact Nat.le_refl _)
theorem allO_map {α β : Type} (g : α → β) : ∀ l : List α, allO (l.map fun x => some (g x)) = some (l.map g)
 | [] => rfl
 | x :: l => by simp [allO, allO_map g l]
theorem c36_all (f : Nat → Int) : allO ((c36 f).map PV.toT) = some (t36 f) := by
 unfold c36 t36
 rw [List.map_map]
 have : (List.map (PV.toT ∘ fun v => PV.t (.int .i64 (f v))) (List.range 36)) = List.map (fun v => some (TV.int .i64 (f v))) (List.range 36) := rfl
 rw [this, allO_map]
theorem c36_under (f : Nat → Int) (k : Nat) : (c36 f).all (PV.under k) = true := by simp [c36, PV.under]
theorem c36_ids (f : Nat → Int) : (c36 f).flatMap idsP = [] := by
 rw [List.flatMap_eq_nil_iff]
 intro x hx
 obtain ⟨v, _, rfl⟩ := List.mem_map.1 hx
 rfl
theorem c36_inv (f : Nat → Int) (ids : List Nat) : (c36 f).map (PV.inv ids) = c36 f := by
 unfold c36; rw [List.map_map]; rfl
theorem c36_ren (f : Nat → Int) (ids : List Nat) : (c36 f).map (PV.ren ids) = c36 f := by
 unfold c36; rw [List.map_map]; rfl
def upd1 (f : Nat → Int) (o : Nat) (x : Int) : Nat → Int := fun v => if v = o then x else f v
theorem c36_set (f : Nat → Int) {o : Nat} (h : o < 36) (x : Int) : (c36 f).take o ++ [.t (.int .i64 x)] ++ (c36 f).drop (o + 1) = c36 (upd1 f o x) := by
 unfold upd1
 apply List.ext_getElem?
 intro i
 have hl := c36_len f
 by_cases hi : i < o
 ·rw [List.append_assoc, List.getElem?_append_left (by rw [List.length_take, hl]; omega), List.getElem?_take, if_pos hi, c36_at f (by omega), c36_at _ (by omega), if_neg (by omega)]
 ·rw [List.append_assoc, List.getElem?_append_right (by rw [List.length_take, hl]; omega), List.length_take, hl, Nat.min_eq_left (by omega)]
  by_cases h2 : i = o
  ·subst h2; rw [Nat.sub_self, c36_at _ h, if_pos rfl]; rfl
  ·obtain ⟨m, hm⟩ : ∃ m, i - o = m + 1 := ⟨i - o - 1, by omega⟩
   rw [hm]
   show ((c36 f).drop (o + 1))[m]? = _
   rw [List.getElem?_drop]
   by_cases h3 : i < 36
   ·rw [show o + 1 + m = i by omega, c36_at _ h3, c36_at _ h3, if_neg h2]
   ·rw [List.getElem?_eq_none (by rw [hl]; omega), List.getElem?_eq_none (by rw [c36_len]; omega)]
theorem c36_congr {f g : Nat → Int} (h : ∀ v, v < 36 → f v = g v) : c36 f = c36 g := by
 unfold c36
 exact List.map_congr_left fun v hv => by rw [h v (List.mem_range.1 hv)]
theorem cells_self (l : List PO) : ∀ cs : List PV, cellsW l cs cs = True
 | [] => by simp [cellsW]
 | c :: cs => by
  have h : cellW l c c := by cases c <;> simp [cellW, PV.toT]
  simp [cellsW, h, cells_self l cs]
def row9 (f g : Nat → Int) (i : Nat) : Bool := (List.range 9).foldr (fun k b => (f (i * 9 + k) == g (i * 9 + k)) && b) true
def all36 (f g : Nat → Int) : Bool := (List.range 4).foldr (fun i b => row9 f g i && b) true
def initV (T : List Int) (M : Int) (i : Nat) (k : Int) (v : Nat) : Int := if (v / 9 < i ∨ (v / 9 = i ∧ ((v % 9 : Nat) : Int) ≤ k)) ∧ 1 ≤ v % 9 ∧ ((v % 9 : Nat) : Int) ≤ nthI T ((v / 9 : Nat) : Int) then M else 0
theorem initV_zero (T : List Int) (M : Int) (v : Nat) : initV T M 0 0 v = 0 := by
 unfold initV
 rw [if_neg (by omega)]
theorem initV_next (T : List Int) (M : Int) {i k : Nat} {x : Int} (hk8 : k < 8) (hx : nthI T (i : Int) = x) (hk : (k : Int) < x) : initV T M i (k + 1 : Nat) = upd1 (initV T M i k) (i * 9 + (k + 1)) M := by
 funext v
 unfold upd1 initV
 by_cases e : v = i * 9 + (k + 1)
 ·have e1 : v / 9 = i := by omega
  have e2 : v % 9 = k + 1 := by omega
  rw [if_pos e, e1, e2, hx, if_pos ⟨.inr ⟨rfl, Int.le_refl _⟩, by omega, by omega⟩]
 ·rw [if_neg e]
  by_cases c : (v / 9 < i ∨ v / 9 = i ∧ ((v % 9 : Nat) : Int) ≤ ((k : Nat) : Int)) ∧ 1 ≤ v % 9 ∧ ((v % 9 : Nat) : Int) ≤ nthI T ((v / 9 : Nat) : Int)
  ·rw [if_pos c, if_pos ⟨by omega, c.2⟩]
  ·rw [if_neg c, if_neg]
   rintro ⟨c1, c2⟩
   refine c ⟨?_, c2⟩
   omega
theorem initV_row (T : List Int) (M : Int) {i : Nat} {x : Int} (hx : nthI T (i : Int) = x) : initV T M (i + 1) 0 = initV T M i x := by
 funext v
 unfold initV
 by_cases e : v / 9 = i
 ·rw [e, hx]
  by_cases c : 1 ≤ v % 9 ∧ ((v % 9 : Nat) : Int) ≤ x
  ·rw [if_pos ⟨.inl (by omega), c⟩, if_pos ⟨.inr ⟨rfl, c.2⟩, c⟩]
  ·rw [if_neg (fun h => c h.2), if_neg (fun h => c h.2)]
 ·by_cases c : (v / 9 < i) ∧ 1 ≤ v % 9 ∧ ((v % 9 : Nat) : Int) ≤ nthI T ((v / 9 : Nat) : Int)
  ·rw [if_pos ⟨.inl (by omega), c.2⟩, if_pos ⟨.inl c.1, c.2⟩]
  ·rw [if_neg, if_neg]
   ·rintro ⟨c1, c2⟩; exact c ⟨by omega, c2⟩
   ·rintro ⟨c1, c2⟩; exact c ⟨by omega, c2⟩
def cix (a i : Int) : Nat := (a * 9 + i).toNat
def stepR (f : Nat → Int) (x : Rd) : Nat → Int :=
 let f1 := upd1 f (cix x.a x.i) (min (f (cix x.a x.i)) (IntKind.i64.wrap (IntKind.i64.wrap (f (cix x.b x.j) + x.v) + x.w)))
 upd1 f1 (cix x.b x.j) (min (f1 (cix x.b x.j)) (IntKind.i64.wrap (IntKind.i64.wrap (f1 (cix x.a x.i) - x.v) + x.w)))
def badAt (f : Nat → Int) (M : Int) (i k : Nat) : Bool := decide (f (i * 9 + k) < -M) || decide (f (i * 9) < 0)
open Classical in
noncomputable def badG (T : List Int) (M : Int) (f : Nat → Int) : Bool := decide (∃ i k : Nat, i < T.length ∧ (k : Int) ≤ nthI T (i : Int) ∧ badAt f M i k = true)
noncomputable def gLoop (T : List Int) (M : Int) (L : List Rd) : Nat → (Nat → Int) → (Nat → Int) × Bool
 | 0, f => (f, false)
 | k + 1, f => if badG T M (L.foldl stepR f) then (L.foldl stepR f, false) else if all36 (L.foldl stepR f) f then (L.foldl stepR f, true) else gLoop T M L k (L.foldl stepR f)
def sumT (T : List Int) : Int := T.foldl (· + ·) 1
noncomputable def greatG (T : List Int) (M : Int) (L : List Rd) : (Nat → Int) × Bool := gLoop T M L ((sumT T).toNat + 1) (initV T M T.length 0)
end Go.Of
namespace Go.Proofs.YtlonlnfenbadbaaDoor
open Go.RowKit Go.Pm Go.Oc Go.Oc.Ix Ix Go.Of Go.Ow
set_option maxRecDepth 100000
set_option linter.unusedVariables false
set_option maxHeartbeats 4000000

theorem eqT_36 (f g : Nat → Int) : eqT Tryd.prog 20 223 (.agg (t36 f)) (.agg (t36 g)) = some (all36 f g) := by kernel_rfl
theorem fFirst_c (n x : Int) (f : Bool) : PCalls Tryd.prog 177 [.int .i64 n, .sl [.int .i64 x] 1 f] (.int .i64 (min n x)) := by
 refine pcalls_by Tryd.mixes noSpec_ok (fn := Tryd.f177) Tryd.func177 rfl (by kernel_rfl) (by show 2 ≤ _; decide) ?_
 simp (decide := true) (maxSteps := 4000000) only [go_sem, Nat.reduceAdd, Nat.reduceSub, Nat.reduceMul, Nat.reduceDiv, Nat.reduceMod, Nat.reduceLT, Nat.reduceLeDiff, Nat.reduceEqDiff, Nat.reduceBEq, Nat.reduceBNe, Nat.reduceGT, Int.reduceAdd, Int.reduceSub, Int.reduceMul, Int.reduceNeg, Int.reduceLT, Int.reduceLE, Int.reduceEq, Int.reduceNe, Int.reduceBEq, Int.reduceBNe, Int.reduceToNat, Int.reduceGT, Int.reduceGE, ↓reduceIte, decide_true, decide_false, eq_self, Nat.mul_one, Nat.zero_mul, Nat.one_mul, Int.le_refl, Nat.le_refl, Int.cast_ofNat_Int, Tryd.f177]
 refine pwpC_loopU (A := { j : Nat // j ≤ 1 }) [7, 8] (fun j => [(9, .t (.int .i64 (j.1 : Int))), (0, .t (.int .i64 (match j.1 with | 0 => n | _ => min n x)))]) (fun j => []) (fun j => 1 - j.1) ⟨0, by omega⟩ (by decide) (fun _ => by rfl) ?_ fun Q1 hQ1 ⟨j, hj⟩ I1 hI1 => ?_
 ·simp (decide := true) (maxSteps := 4000000) only [go_sem, Nat.reduceAdd, Nat.reduceSub, Nat.reduceMul, Nat.reduceDiv, Nat.reduceMod, Nat.reduceLT, Nat.reduceLeDiff, Nat.reduceEqDiff, Nat.reduceBEq, Nat.reduceBNe, Nat.reduceGT, Int.reduceAdd, Int.reduceSub, Int.reduceMul, Int.reduceNeg, Int.reduceLT, Int.reduceLE, Int.reduceEq, Int.reduceNe, Int.reduceBEq, Int.reduceBNe, Int.reduceToNat, Int.reduceGT, Int.reduceGE, ↓reduceIte, decide_true, decide_false, eq_self, Nat.mul_one, Nat.zero_mul, Nat.one_mul, Int.le_refl, Nat.le_refl, Int.cast_ofNat_Int]
  first | done | trace_state
 ·rcases (by omega : j = 0 ∨ j = 1) with rfl | rfl
  ·simp (decide := true) (maxSteps := 4000000) only [go_sem, Nat.reduceAdd, Nat.reduceSub, Nat.reduceMul, Nat.reduceDiv, Nat.reduceMod, Nat.reduceLT, Nat.reduceLeDiff, Nat.reduceEqDiff, Nat.reduceBEq, Nat.reduceBNe, Nat.reduceGT, Int.reduceAdd, Int.reduceSub, Int.reduceMul, Int.reduceNeg, Int.reduceLT, Int.reduceLE, Int.reduceEq, Int.reduceNe, Int.reduceBEq, Int.reduceBNe, Int.reduceToNat, Int.reduceGT, Int.reduceGE, ↓reduceIte, decide_true, decide_false, eq_self, Nat.mul_one, Nat.zero_mul, Nat.one_mul, Int.le_refl, Nat.le_refl, Int.cast_ofNat_Int]
   refine hI1 _ ⟨1, by omega⟩ (by simp only; omega) ?_
   simp (decide := true) (maxSteps := 4000000) only [go_sem, Nat.reduceAdd, Nat.reduceSub, Nat.reduceMul, Nat.reduceDiv, Nat.reduceMod, Nat.reduceLT, Nat.reduceLeDiff, Nat.reduceEqDiff, Nat.reduceBEq, Nat.reduceBNe, Nat.reduceGT, Int.reduceAdd, Int.reduceSub, Int.reduceMul, Int.reduceNeg, Int.reduceLT, Int.reduceLE, Int.reduceEq, Int.reduceNe, Int.reduceBEq, Int.reduceBNe, Int.reduceToNat, Int.reduceGT, Int.reduceGE, ↓reduceIte, decide_true, decide_false, eq_self, Nat.mul_one, Nat.zero_mul, Nat.one_mul, Int.le_refl, Nat.le_refl, Int.cast_ofNat_Int, show IntKind.i64.wrap 1 = 1 from rfl]
   first | done | trace_state
  ·simp (decide := true) (maxSteps := 4000000) only [go_sem, Nat.reduceAdd, Nat.reduceSub, Nat.reduceMul, Nat.reduceDiv, Nat.reduceMod, Nat.reduceLT, Nat.reduceLeDiff, Nat.reduceEqDiff, Nat.reduceBEq, Nat.reduceBNe, Nat.reduceGT, Int.reduceAdd, Int.reduceSub, Int.reduceMul, Int.reduceNeg, Int.reduceLT, Int.reduceLE, Int.reduceEq, Int.reduceNe, Int.reduceBEq, Int.reduceBNe, Int.reduceToNat, Int.reduceGT, Int.reduceGE, ↓reduceIte, decide_true, decide_false, eq_self, Nat.mul_one, Nat.zero_mul, Nat.one_mul, Int.le_refl, Nat.le_refl, Int.cast_ofNat_Int]
   refine hQ1 _ _ ?_
   simp (decide := true) (maxSteps := 4000000) only [go_sem, Nat.reduceAdd, Nat.reduceSub, Nat.reduceMul, Nat.reduceDiv, Nat.reduceMod, Nat.reduceLT, Nat.reduceLeDiff, Nat.reduceEqDiff, Nat.reduceBEq, Nat.reduceBNe, Nat.reduceGT, Int.reduceAdd, Int.reduceSub, Int.reduceMul, Int.reduceNeg, Int.reduceLT, Int.reduceLE, Int.reduceEq, Int.reduceNe, Int.reduceBEq, Int.reduceBNe, Int.reduceToNat, Int.reduceGT, Int.reduceGE, ↓reduceIte, decide_true, decide_false, eq_self, Nat.mul_one, Nat.zero_mul, Nat.one_mul, Int.le_refl, Nat.le_refl, Int.cast_ofNat_Int]
   first | done | trace_state
theorem fLower_c (g : Nat → Int) {o : Nat} (ho : o < 36) (x : Int) : HCalls Tryd.prog 159 [.ptr 0 o, .t (.sl [.int .i64 x] 1 true)] (getL [.box (c36 g)]) (.t (.tup [])) (getL [.box (c36 (upd1 g o (min (g o) x)))]) := by
 have h1 := c36_at g ho
 have h2 := c36_set g ho (min (g o) x)
 have h3 := c36_len g
 have h4 := fFirst_c (g o) x true
 have h5 : o + 1 ≤ 36 := by omega
 simp only [List.append_assoc, List.cons_append, List.nil_append] at h2
 refine hcalls_by Tryd.mixes (Spec.one_ok (oneP_ok h4) noSpec_ok) (fn := Tryd.f159) Tryd.func159 rfl (by kernel_rfl) (by show 2 ≤ _; decide) ?_
 simp (decide := true) (maxSteps := 4000000) only [go_sem, Nat.reduceAdd, Nat.reduceSub, Nat.reduceMul, Nat.reduceDiv, Nat.reduceMod, Nat.reduceLT, Nat.reduceLeDiff, Nat.reduceEqDiff, Nat.reduceBEq, Nat.reduceBNe, Nat.reduceGT, Int.reduceAdd, Int.reduceSub, Int.reduceMul, Int.reduceNeg, Int.reduceLT, Int.reduceLE, Int.reduceEq, Int.reduceNe, Int.reduceBEq, Int.reduceBNe, Int.reduceToNat, Int.reduceGT, Int.reduceGE, ↓reduceIte, decide_true, decide_false, eq_self, Nat.mul_one, Nat.zero_mul, Nat.one_mul, Int.le_refl, Nat.le_refl, Int.cast_ofNat_Int, Tryd.f159, h1, h2, h3, h5, cells_self, c36_under, ho, List.append_assoc]
 exact ⟨_, rfl, rfl⟩
end Go.Proofs.YtlonlnfenbadbaaDoor

/- Part TFe. -/
namespace Go.Of
open Go Go.RowKit Go.Pm Go.Oc Go.Oh Go.Oc.Ix
open Classical in
noncomputable def lowG : List PV → List PO → Option (PV × List PO) := fun ps hl =>
 if h : ∃ (g : Nat → Int) (o : Nat) (x : Int), o < 36 ∧ ps = [.ptr 0 o, .t (.sl [.int .i64 x] 1 true)] ∧ hl = [.box (c36 g)] then
  some (.t (.tup []), [.box (c36 (upd1 h.choose h.choose_spec.choose (min (h.choose h.choose_spec.choose) h.choose_spec.choose_spec.choose)))])
 else none
theorem c36_inj {f g : Nat → Int} (h : c36 f = c36 g) {v : Nat} (hv : v < 36) : f v = g v := by
 have h1 := c36_at f hv
 rw [h, c36_at g hv] at h1
 simpa using h1.symm
theorem lowG_eq (g : Nat → Int) (o : Nat) (x : Int) : lowG [.ptr 0 o, .t (.sl [.int .i64 x] 1 true)] [.box (c36 g)] = if o < 36 then some (.t (.tup []), [.box (c36 (upd1 g o (min (g o) x)))]) else none := by
 by_cases ho : o < 36
 ·rw [if_pos ho]
  have h : ∃ (g' : Nat → Int) (o' : Nat) (x' : Int), o' < 36 ∧ [PV.ptr 0 o, .t (.sl [.int .i64 x] 1 true)] = [.ptr 0 o', .t (.sl [.int .i64 x'] 1 true)] ∧ [PO.box (c36 g)] = [.box (c36 g')] := ⟨g, o, x, ho, rfl, rfl⟩
  unfold lowG
  rw [dif_pos h]
  obtain ⟨e1, e2, e3⟩ := h.choose_spec.choose_spec.choose_spec
  generalize h.choose_spec.choose_spec.choose = x' at *
  generalize h.choose_spec.choose = o' at *
  generalize h.choose = g' at *
  simp only [List.cons.injEq, PV.ptr.injEq, true_and, and_true, PV.t.injEq, TV.sl.injEq, TV.int.injEq] at e2
  obtain ⟨rfl, rfl⟩ := e2
  simp only [List.cons.injEq, and_true, PO.box.injEq] at e3
  have := fun v (hv : v < 36) => c36_inj e3 hv
  congr 1
  congr 1
  congr 1
  congr 1
  refine c36_congr fun v hv => ?_
  unfold upd1
  rw [this v hv, this o ho]
 ·rw [if_neg ho]
  unfold lowG
  rw [dif_neg]
  rintro ⟨g', o', x', h1, h2, _⟩
  simp only [List.cons.injEq, PV.ptr.injEq, true_and] at h2
  omega
theorem cix_nat (a i : Nat) : cix (a : Int) (i : Int) = a * 9 + i := by unfold cix; omega
theorem stepR_nat (f : Nat → Int) {ka ki kb kj : Nat} {v w : Int} : stepR f ⟨ka, ki, kb, kj, v, w⟩ = upd1 (upd1 f (ka * 9 + ki) (min (f (ka * 9 + ki)) (IntKind.i64.wrap (IntKind.i64.wrap (f (kb * 9 + kj) + v) + w)))) (kb * 9 + kj) (min (upd1 f (ka * 9 + ki) (min (f (ka * 9 + ki)) (IntKind.i64.wrap (IntKind.i64.wrap (f (kb * 9 + kj) + v) + w))) (kb * 9 + kj)) (IntKind.i64.wrap (IntKind.i64.wrap (upd1 f (ka * 9 + ki) (min (f (ka * 9 + ki)) (IntKind.i64.wrap (IntKind.i64.wrap (f (kb * 9 + kj) + v) + w))) (ka * 9 + ki) - v) + w))) := by
 unfold stepR
 simp only [cix_nat]
theorem badG_t {T : List Int} {M : Int} {f : Nat → Int} (h : ∃ i k : Nat, i < T.length ∧ (k : Int) ≤ nthI T (i : Int) ∧ badAt f M i k = true) : badG T M f = true := by
 unfold badG; exact @decide_eq_true _ (_) h
theorem badG_f {T : List Int} {M : Int} {f : Nat → Int} (h : ¬ ∃ i k : Nat, i < T.length ∧ (k : Int) ≤ nthI T (i : Int) ∧ badAt f M i k = true) : badG T M f = false := by
 unfold badG; exact @decide_eq_false _ (_) h
theorem c36_drop (f : Nat → Int) : (c36 f).drop 36 = [] := List.drop_of_length_le (by rw [c36_len]; exact Nat.le_refl _)
def rdOk (T : List Int) (L : List Rd) : Prop := ∀ x ∈ L, (0 ≤ x.a ∧ x.a < T.length) ∧ (0 ≤ x.i ∧ x.i ≤ nthI T x.a) ∧ (0 ≤ x.b ∧ x.b < T.length) ∧ (0 ≤ x.j ∧ x.j ≤ nthI T x.b) ∧ (-200000 ≤ x.v ∧ x.v ≤ 200000) ∧ (0 ≤ x.w ∧ x.w ≤ 100000)
def setOk (T : List Int) (M : Int) : Prop := (1 ≤ T.length ∧ T.length ≤ 4) ∧ (0 ≤ M ∧ M ≤ 100000) ∧ ∀ x ∈ T, 1 ≤ x ∧ x ≤ 8
theorem sumT_take (T : List Int) {k : Nat} {x : Int} (h : T[k]? = some x) : sumT (T.take (k + 1)) = sumT (T.take k) + x := by
 unfold sumT
 rw [List.take_add_one, h]
 simp [List.foldl_append]
theorem sumT_le : ∀ {T : List Int}, (∀ x ∈ T, 1 ≤ x ∧ x ≤ 8) → ∀ c : Int, c ≤ T.foldl (· + ·) c ∧ T.foldl (· + ·) c ≤ c + 8 * T.length
 | [], _, c => by simp
 | x :: T, h, c => by
  have h1 := h x List.mem_cons_self
  have h2 := sumT_le (T := T) (fun y hy => h y (List.mem_cons_of_mem _ hy)) (c + x)
  simp only [List.foldl_cons, List.length_cons] at h2 ⊢
  omega
end Go.Of
namespace Go.Proofs.YtlonlnfenbadbaaDoor
open Go.RowKit Go.Pm Go.Oc Go.Oc.Ix Ix Go.Of Go.Ow
set_option maxRecDepth 100000
set_option linter.unusedVariables false
set_option maxHeartbeats 4000000

theorem fGreat1_c {T : List Int} {M : Int} (fT : Bool) (hs : setOk T M) {L : List Rd} (fL : Bool) (hLl : L.length ≤ 24) (hr : rdOk T L) :
  PCalls Tryd.prog 129 [.agg [.sl (ints T) T.length fT, .int .i64 M], .sl (L.flatMap Rd.cs) L.length fL] (.tup [.agg (t36 (greatG T M L).1), .bool (greatG T M L).2]) := by
 obtain ⟨hT, hM, hT8⟩ := hs
 have hlow : ∀ ps hl v hl', lowG ps hl = some (v, hl') → HCalls Tryd.prog 159 ps (getL hl) v (getL hl') := by
  intro ps hl v hl' e
  unfold lowG at e
  split at e
  ·rename_i h
   obtain ⟨e1, e2, e3⟩ := h.choose_spec.choose_spec.choose_spec
   generalize h.choose_spec.choose_spec.choose = x' at *
   generalize h.choose_spec.choose = o' at *
   generalize h.choose = g' at *
   cases e
   rw [e2, e3]
   exact fLower_c g' e1 x'
  ·cases e
 have hG : greatG T M L = gLoop T M L ((sumT T).toNat + 1) (initV T M T.length 0) := rfl
 have hS := sumT_le hT8 1
 have hz : c36 (initV T M 0 0) = List.replicate 36 (.t (.int .i64 0)) := by
  rw [c36_congr (g := fun _ => 0) (fun v _ => initV_zero T M v)]; rfl
 refine pcalls_by Tryd.mixes (Spec.oneH_ok hlow noSpec_ok) (fn := Tryd.f129) Tryd.func129 rfl (by kernel_rfl) (by show 2 ≤ _; decide) ?_
 simp (decide := true) (maxSteps := 4000000) only [go_sem, Nat.reduceAdd, Nat.reduceSub, Nat.reduceMul, Nat.reduceDiv, Nat.reduceMod, Nat.reduceLT, Nat.reduceLeDiff, Nat.reduceEqDiff, Nat.reduceBEq, Nat.reduceBNe, Nat.reduceGT, Int.reduceAdd, Int.reduceSub, Int.reduceMul, Int.reduceNeg, Int.reduceLT, Int.reduceLE, Int.reduceEq, Int.reduceNe, Int.reduceBEq, Int.reduceBNe, Int.reduceToNat, Int.reduceGT, Int.reduceGE, ↓reduceIte, decide_true, decide_false, eq_self, Nat.mul_one, Nat.zero_mul, Nat.one_mul, Int.le_refl, Nat.le_refl, Int.cast_ofNat_Int, Tryd.f129]
 refine pwpC_loopU (A := { i : Nat // i ≤ T.length }) [1, 2, 4, 5, 20, 21] (fun i => [(22, .t (.int .i64 i.1)), (6, .t (.int .i64 (sumT (T.take i.1))))]) (fun i => [(1, .box (c36 (initV T M i.1 0)))]) (fun i => T.length - i.1) ⟨0, by omega⟩ (by decide) (fun _ => by rfl) ?_ fun Q1 hQ1 ⟨i, hi⟩ I1 hI1 => ?_
 ·simp (decide := true) (maxSteps := 4000000) only [go_sem, Nat.reduceAdd, Nat.reduceSub, Nat.reduceMul, Nat.reduceDiv, Nat.reduceMod, Nat.reduceLT, Nat.reduceLeDiff, Nat.reduceEqDiff, Nat.reduceBEq, Nat.reduceBNe, Nat.reduceGT, Int.reduceAdd, Int.reduceSub, Int.reduceMul, Int.reduceNeg, Int.reduceLT, Int.reduceLE, Int.reduceEq, Int.reduceNe, Int.reduceBEq, Int.reduceBNe, Int.reduceToNat, Int.reduceGT, Int.reduceGE, ↓reduceIte, decide_true, decide_false, eq_self, Nat.mul_one, Nat.zero_mul, Nat.one_mul, Int.le_refl, Nat.le_refl, Int.cast_ofNat_Int, hz, sumT, List.take_zero]
  first | done | rfl
 ·by_cases hlt : (i : Int) < T.length
  ·obtain ⟨x, hx⟩ := get_lt hlt
   have hd := ints_at hx
   rw [Nat.mul_one] at hd
   have hx8 := hT8 x (List.mem_of_getElem? hx)
   have hsm := sumT_take T hx
   have hsb := sumT_le (T := T.take i) (fun y hy => hT8 y (List.mem_of_mem_take hy)) 1
   rw [List.length_take] at hsb
   have hw1 : IntKind.i64.wrap (sumT (T.take i) + x) = sumT (T.take (i + 1)) := by rw [hsm]; unfold sumT; exact wrap_in (by omega) (by omega)
   have hw2 : IntKind.i64.wrap ((i : Int) + 1) = ((i + 1 : Nat) : Int) := by rw [wrap_in (by omega) (by omega)]; omega
   have hrow := initV_row T M (nthI_at hx)
   simp (decide := true) (maxSteps := 4000000) only [go_sem, Nat.reduceAdd, Nat.reduceSub, Nat.reduceMul, Nat.reduceDiv, Nat.reduceMod, Nat.reduceLT, Nat.reduceLeDiff, Nat.reduceEqDiff, Nat.reduceBEq, Nat.reduceBNe, Nat.reduceGT, Int.reduceAdd, Int.reduceSub, Int.reduceMul, Int.reduceNeg, Int.reduceLT, Int.reduceLE, Int.reduceEq, Int.reduceNe, Int.reduceBEq, Int.reduceBNe, Int.reduceToNat, Int.reduceGT, Int.reduceGE, ↓reduceIte, decide_true, decide_false, eq_self, Nat.mul_one, Nat.zero_mul, Nat.one_mul, Int.le_refl, Nat.le_refl, Int.cast_ofNat_Int, hlt, hd, hw1]
   refine pwpC_loopU (A := { k : Nat // (k : Int) ≤ x }) [1, 2, 4, 5, 20, 21, 22, 6, 7, 30] (fun k => [(31, .t (.int .i64 k.1))]) (fun k => [(1, .box (c36 (initV T M i k.1)))]) (fun k => x.toNat - k.1) ⟨0, by omega⟩ (by decide) (fun _ => by rfl) ?_ fun Q2 hQ2 ⟨k, hk⟩ I2 hI2 => ?_
   ·simp (decide := true) (maxSteps := 4000000) only [go_sem, Nat.reduceAdd, Nat.reduceSub, Nat.reduceMul, Nat.reduceDiv, Nat.reduceMod, Nat.reduceLT, Nat.reduceLeDiff, Nat.reduceEqDiff, Nat.reduceBEq, Nat.reduceBNe, Nat.reduceGT, Int.reduceAdd, Int.reduceSub, Int.reduceMul, Int.reduceNeg, Int.reduceLT, Int.reduceLE, Int.reduceEq, Int.reduceNe, Int.reduceBEq, Int.reduceBNe, Int.reduceToNat, Int.reduceGT, Int.reduceGE, ↓reduceIte, decide_true, decide_false, eq_self, Nat.mul_one, Nat.zero_mul, Nat.one_mul, Int.le_refl, Nat.le_refl, Int.cast_ofNat_Int, cells_self, c36_under]
   ·by_cases hlt2 : (k : Int) < x
    ·have hnx := initV_next T M (show k < 8 by omega) (nthI_at hx) hlt2
     have hw3 : IntKind.i64.wrap ((k : Int) + 1) = ((k + 1 : Nat) : Int) := by rw [wrap_in (by omega) (by omega)]; omega
     have hi4 : (i : Int) < 4 := by omega
     have hk9 : ((k + 1 : Nat) : Int) < 9 := by omega
     have ho : i * 9 + (k + 1) < 36 := by omega
     have ho5 : i * 9 + (k + 1) ≤ 35 := by omega
     have hset := c36_set (initV T M i k) ho M
     simp only [List.append_assoc, List.cons_append, List.nil_append] at hset
     simp (decide := true) (maxSteps := 4000000) only [go_sem, Nat.reduceAdd, Nat.reduceSub, Nat.reduceMul, Nat.reduceDiv, Nat.reduceMod, Nat.reduceLT, Nat.reduceLeDiff, Nat.reduceEqDiff, Nat.reduceBEq, Nat.reduceBNe, Nat.reduceGT, Int.reduceAdd, Int.reduceSub, Int.reduceMul, Int.reduceNeg, Int.reduceLT, Int.reduceLE, Int.reduceEq, Int.reduceNe, Int.reduceBEq, Int.reduceBNe, Int.reduceToNat, Int.reduceGT, Int.reduceGE, ↓reduceIte, decide_true, decide_false, eq_self, Nat.mul_one, Nat.zero_mul, Nat.one_mul, Int.le_refl, Nat.le_refl, Int.cast_ofNat_Int, hlt2, hi4, hk9, hw3, c36_len, ho5, List.append_assoc, hset]
     refine hI2 _ ⟨k + 1, by omega⟩ (by simp only; omega) ?_
     simp (decide := true) (maxSteps := 4000000) only [go_sem, Nat.reduceAdd, Nat.reduceSub, Nat.reduceMul, Nat.reduceDiv, Nat.reduceMod, Nat.reduceLT, Nat.reduceLeDiff, Nat.reduceEqDiff, Nat.reduceBEq, Nat.reduceBNe, Nat.reduceGT, Int.reduceAdd, Int.reduceSub, Int.reduceMul, Int.reduceNeg, Int.reduceLT, Int.reduceLE, Int.reduceEq, Int.reduceNe, Int.reduceBEq, Int.reduceBNe, Int.reduceToNat, Int.reduceGT, Int.reduceGE, ↓reduceIte, decide_true, decide_false, eq_self, Nat.mul_one, Nat.zero_mul, Nat.one_mul, Int.le_refl, Nat.le_refl, Int.cast_ofNat_Int, hnx, cells_self, c36_under]
    ·have hke : (k : Int) = x := by omega
     simp (decide := true) (maxSteps := 4000000) only [go_sem, Nat.reduceAdd, Nat.reduceSub, Nat.reduceMul, Nat.reduceDiv, Nat.reduceMod, Nat.reduceLT, Nat.reduceLeDiff, Nat.reduceEqDiff, Nat.reduceBEq, Nat.reduceBNe, Nat.reduceGT, Int.reduceAdd, Int.reduceSub, Int.reduceMul, Int.reduceNeg, Int.reduceLT, Int.reduceLE, Int.reduceEq, Int.reduceNe, Int.reduceBEq, Int.reduceBNe, Int.reduceToNat, Int.reduceGT, Int.reduceGE, ↓reduceIte, decide_true, decide_false, eq_self, Nat.mul_one, Nat.zero_mul, Nat.one_mul, Int.le_refl, Nat.le_refl, Int.cast_ofNat_Int, hlt2]
     refine hQ2 _ _ ?_
     simp (decide := true) (maxSteps := 4000000) only [go_sem, Nat.reduceAdd, Nat.reduceSub, Nat.reduceMul, Nat.reduceDiv, Nat.reduceMod, Nat.reduceLT, Nat.reduceLeDiff, Nat.reduceEqDiff, Nat.reduceBEq, Nat.reduceBNe, Nat.reduceGT, Int.reduceAdd, Int.reduceSub, Int.reduceMul, Int.reduceNeg, Int.reduceLT, Int.reduceLE, Int.reduceEq, Int.reduceNe, Int.reduceBEq, Int.reduceBNe, Int.reduceToNat, Int.reduceGT, Int.reduceGE, ↓reduceIte, decide_true, decide_false, eq_self, Nat.mul_one, Nat.zero_mul, Nat.one_mul, Int.le_refl, Nat.le_refl, Int.cast_ofNat_Int, hw2]
     refine hI1 _ ⟨i + 1, by omega⟩ (by simp only; omega) ?_
     simp (decide := true) (maxSteps := 4000000) only [go_sem, Nat.reduceAdd, Nat.reduceSub, Nat.reduceMul, Nat.reduceDiv, Nat.reduceMod, Nat.reduceLT, Nat.reduceLeDiff, Nat.reduceEqDiff, Nat.reduceBEq, Nat.reduceBNe, Nat.reduceGT, Int.reduceAdd, Int.reduceSub, Int.reduceMul, Int.reduceNeg, Int.reduceLT, Int.reduceLE, Int.reduceEq, Int.reduceNe, Int.reduceBEq, Int.reduceBNe, Int.reduceToNat, Int.reduceGT, Int.reduceGE, ↓reduceIte, decide_true, decide_false, eq_self, Nat.mul_one, Nat.zero_mul, Nat.one_mul, Int.le_refl, Nat.le_refl, Int.cast_ofNat_Int, hrow, hke, cells_self, c36_under]
  ·have hie : i = T.length := by omega
   subst hie
   simp (decide := true) (maxSteps := 4000000) only [go_sem, Nat.reduceAdd, Nat.reduceSub, Nat.reduceMul, Nat.reduceDiv, Nat.reduceMod, Nat.reduceLT, Nat.reduceLeDiff, Nat.reduceEqDiff, Nat.reduceBEq, Nat.reduceBNe, Nat.reduceGT, Int.reduceAdd, Int.reduceSub, Int.reduceMul, Int.reduceNeg, Int.reduceLT, Int.reduceLE, Int.reduceEq, Int.reduceNe, Int.reduceBEq, Int.reduceBNe, Int.reduceToNat, Int.reduceGT, Int.reduceGE, ↓reduceIte, decide_true, decide_false, eq_self, Nat.mul_one, Nat.zero_mul, Nat.one_mul, Int.le_refl, Nat.le_refl, Int.cast_ofNat_Int, hlt]
   refine hQ1 _ _ ?_
   have htk : T.take T.length = T := List.take_length
   obtain ⟨N, hN⟩ : ∃ N : Nat, sumT T = N := ⟨(sumT T).toNat, by unfold sumT; omega⟩
   have hG : greatG T M L = gLoop T M L (N + 1) (initV T M T.length 0) := by unfold greatG; rw [hN]; rfl
   have hN33 : (N : Int) ≤ 33 := by rw [← hN]; unfold sumT; omega
   simp (decide := true) (maxSteps := 4000000) only [go_sem, Nat.reduceAdd, Nat.reduceSub, Nat.reduceMul, Nat.reduceDiv, Nat.reduceMod, Nat.reduceLT, Nat.reduceLeDiff, Nat.reduceEqDiff, Nat.reduceBEq, Nat.reduceBNe, Nat.reduceGT, Int.reduceAdd, Int.reduceSub, Int.reduceMul, Int.reduceNeg, Int.reduceLT, Int.reduceLE, Int.reduceEq, Int.reduceNe, Int.reduceBEq, Int.reduceBNe, Int.reduceToNat, Int.reduceGT, Int.reduceGE, ↓reduceIte, decide_true, decide_false, eq_self, Nat.mul_one, Nat.zero_mul, Nat.one_mul, Int.le_refl, Nat.le_refl, Int.cast_ofNat_Int, htk, hN]
   refine pwpC_loopU (A := { p : Nat × (Nat → Int) // p.1 ≤ N ∧ gLoop T M L (p.1 + 1) p.2 = greatG T M L }) [1, 2, 4, 5, 6] (fun p => [(10, .t (.int .i64 (N - p.1.1)))]) (fun p => [(1, .box (c36 p.1.2))]) (fun p => p.1.1) ⟨(N, initV T M T.length 0), Nat.le_refl _, hG.symm⟩ (by decide) (fun _ => by rfl) ?_ fun Q3 hQ3 ⟨⟨m, f⟩, hm, hgl⟩ I3 hI3 => ?_
   ·simp (decide := true) (maxSteps := 4000000) only [go_sem, Nat.reduceAdd, Nat.reduceSub, Nat.reduceMul, Nat.reduceDiv, Nat.reduceMod, Nat.reduceLT, Nat.reduceLeDiff, Nat.reduceEqDiff, Nat.reduceBEq, Nat.reduceBNe, Nat.reduceGT, Int.reduceAdd, Int.reduceSub, Int.reduceMul, Int.reduceNeg, Int.reduceLT, Int.reduceLE, Int.reduceEq, Int.reduceNe, Int.reduceBEq, Int.reduceBNe, Int.reduceToNat, Int.reduceGT, Int.reduceGE, ↓reduceIte, decide_true, decide_false, eq_self, Nat.mul_one, Nat.zero_mul, Nat.one_mul, Int.le_refl, Nat.le_refl, Int.cast_ofNat_Int, Int.sub_self, cells_self, c36_under]
   ·simp only at hm hgl
    simp (decide := true) (maxSteps := 4000000) only [go_sem, Nat.reduceAdd, Nat.reduceSub, Nat.reduceMul, Nat.reduceDiv, Nat.reduceMod, Nat.reduceLT, Nat.reduceLeDiff, Nat.reduceEqDiff, Nat.reduceBEq, Nat.reduceBNe, Nat.reduceGT, Int.reduceAdd, Int.reduceSub, Int.reduceMul, Int.reduceNeg, Int.reduceLT, Int.reduceLE, Int.reduceEq, Int.reduceNe, Int.reduceBEq, Int.reduceBNe, Int.reduceToNat, Int.reduceGT, Int.reduceGE, ↓reduceIte, decide_true, decide_false, eq_self, Nat.mul_one, Nat.zero_mul, Nat.one_mul, Int.le_refl, Nat.le_refl, Int.cast_ofNat_Int, c36_len, c36_all, c36_take, t36_map, c36_drop, List.append_nil]
    refine pwpC_loopU (A := { k : Nat // k ≤ L.length }) [1, 2, 4, 5, 6, 10, 11, 44, 45] (fun k => [(46, .t (.int .i64 k.1))]) (fun k => [(1, .box (c36 ((L.take k.1).foldl stepR f)))]) (fun k => L.length - k.1) ⟨0, by omega⟩ (by decide) (fun _ => by rfl) ?_ fun Q4 hQ4 ⟨k, hk⟩ I4 hI4 => ?_
    ·simp (decide := true) (maxSteps := 4000000) only [go_sem, Nat.reduceAdd, Nat.reduceSub, Nat.reduceMul, Nat.reduceDiv, Nat.reduceMod, Nat.reduceLT, Nat.reduceLeDiff, Nat.reduceEqDiff, Nat.reduceBEq, Nat.reduceBNe, Nat.reduceGT, Int.reduceAdd, Int.reduceSub, Int.reduceMul, Int.reduceNeg, Int.reduceLT, Int.reduceLE, Int.reduceEq, Int.reduceNe, Int.reduceBEq, Int.reduceBNe, Int.reduceToNat, Int.reduceGT, Int.reduceGE, ↓reduceIte, decide_true, decide_false, eq_self, Nat.mul_one, Nat.zero_mul, Nat.one_mul, Int.le_refl, Nat.le_refl, Int.cast_ofNat_Int, cells_self, c36_under]
    ·by_cases hlt3 : (k : Int) < L.length
     ·obtain ⟨x, hx⟩ := get_lt hlt3
      have hd := Rd_at hx
      have hrx := hr x (List.mem_of_getElem? hx)
      have hnext : (L.take (k + 1)).foldl stepR f = stepR ((L.take k).foldl stepR f) x := by
       rw [List.take_add_one, hx]; simp [List.foldl_append]
      have hw4 : IntKind.i64.wrap ((k : Int) + 1) = ((k + 1 : Nat) : Int) := by rw [wrap_in (by omega) (by omega)]; omega
      obtain ⟨a, i, b, j, v, w⟩ := x
      simp only at hrx
      obtain ⟨⟨a0, a1⟩, ⟨i0, i1⟩, ⟨b0, b1⟩, ⟨j0, j1⟩, hv, hw⟩ := hrx
      obtain ⟨ka, rfl⟩ : ∃ n : Nat, a = n := ⟨a.toNat, by omega⟩
      obtain ⟨ki, rfl⟩ : ∃ n : Nat, i = n := ⟨i.toNat, by omega⟩
      obtain ⟨kb, rfl⟩ : ∃ n : Nat, b = n := ⟨b.toNat, by omega⟩
      obtain ⟨kj, rfl⟩ : ∃ n : Nat, j = n := ⟨j.toNat, by omega⟩
      obtain ⟨xa, hxa⟩ := get_lt (l := T) (k := ka) (by omega)
      obtain ⟨xb, hxb⟩ := get_lt (l := T) (k := kb) (by omega)
      rw [nthI_at hxa] at i1
      rw [nthI_at hxb] at j1
      have qa := hT8 xa (List.mem_of_getElem? hxa)
      have qb := hT8 xb (List.mem_of_getElem? hxb)
      rw [stepR_nat] at hnext
      have hp : ka * 9 + ki < 36 := by omega
      have hq : kb * 9 + kj < 36 := by omega
      have b1 : (ka : Int) < 4 := by omega
      have b2 : (kb : Int) < 4 := by omega
      have b3 : (ki : Int) < 9 := by omega
      have b4 : (kj : Int) < 9 := by omega
      have hlen := Rd_len L
      have hle : k * 6 + 6 ≤ (L.flatMap Rd.cs).length := by rw [hlen]; omega
      generalize (L.take k).foldl stepR f = g at *
      have e1 := c36_at g hq
      have e2 := fun y => c36_at (upd1 g (ka * 9 + ki) y) hp
      simp (decide := true) (maxSteps := 4000000) only [go_sem, Nat.reduceAdd, Nat.reduceSub, Nat.reduceMul, Nat.reduceDiv, Nat.reduceMod, Nat.reduceLT, Nat.reduceLeDiff, Nat.reduceEqDiff, Nat.reduceBEq, Nat.reduceBNe, Nat.reduceGT, Int.reduceAdd, Int.reduceSub, Int.reduceMul, Int.reduceNeg, Int.reduceLT, Int.reduceLE, Int.reduceEq, Int.reduceNe, Int.reduceBEq, Int.reduceBNe, Int.reduceToNat, Int.reduceGT, Int.reduceGE, ↓reduceIte, decide_true, decide_false, eq_self, Nat.mul_one, Nat.zero_mul, Nat.one_mul, Int.le_refl, Nat.le_refl, Int.cast_ofNat_Int, hlt3, hd, Rd.cs, hle, b1, b2, b3, b4, c36_len, e1, e2, lowG_eq, hp, hq, c36_inv, c36_ren, c36_ids, c36_under]
      refine hI4 _ ⟨k + 1, by omega⟩ (by simp only; omega) ?_
      simp (decide := true) (maxSteps := 4000000) only [go_sem, Nat.reduceAdd, Nat.reduceSub, Nat.reduceMul, Nat.reduceDiv, Nat.reduceMod, Nat.reduceLT, Nat.reduceLeDiff, Nat.reduceEqDiff, Nat.reduceBEq, Nat.reduceBNe, Nat.reduceGT, Int.reduceAdd, Int.reduceSub, Int.reduceMul, Int.reduceNeg, Int.reduceLT, Int.reduceLE, Int.reduceEq, Int.reduceNe, Int.reduceBEq, Int.reduceBNe, Int.reduceToNat, Int.reduceGT, Int.reduceGE, ↓reduceIte, decide_true, decide_false, eq_self, Nat.mul_one, Nat.zero_mul, Nat.one_mul, Int.le_refl, Nat.le_refl, Int.cast_ofNat_Int, hw4, hnext, cells_self, c36_under]
     ·have hke : k = L.length := by omega
      subst hke
      simp (decide := true) (maxSteps := 4000000) only [go_sem, Nat.reduceAdd, Nat.reduceSub, Nat.reduceMul, Nat.reduceDiv, Nat.reduceMod, Nat.reduceLT, Nat.reduceLeDiff, Nat.reduceEqDiff, Nat.reduceBEq, Nat.reduceBNe, Nat.reduceGT, Int.reduceAdd, Int.reduceSub, Int.reduceMul, Int.reduceNeg, Int.reduceLT, Int.reduceLE, Int.reduceEq, Int.reduceNe, Int.reduceBEq, Int.reduceBNe, Int.reduceToNat, Int.reduceGT, Int.reduceGE, ↓reduceIte, decide_true, decide_false, eq_self, Nat.mul_one, Nat.zero_mul, Nat.one_mul, Int.le_refl, Nat.le_refl, Int.cast_ofNat_Int, hlt3]
      refine hQ4 _ _ ?_
      have hgl2 : greatG T M L = if badG T M (L.foldl stepR f) then (L.foldl stepR f, false) else if all36 (L.foldl stepR f) f then (L.foldl stepR f, true) else gLoop T M L m (L.foldl stepR f) := by rw [← hgl]; rfl
      generalize hGG : L.foldl stepR f = G at *
      simp (decide := true) (maxSteps := 4000000) only [go_sem, Nat.reduceAdd, Nat.reduceSub, Nat.reduceMul, Nat.reduceDiv, Nat.reduceMod, Nat.reduceLT, Nat.reduceLeDiff, Nat.reduceEqDiff, Nat.reduceBEq, Nat.reduceBNe, Nat.reduceGT, Int.reduceAdd, Int.reduceSub, Int.reduceMul, Int.reduceNeg, Int.reduceLT, Int.reduceLE, Int.reduceEq, Int.reduceNe, Int.reduceBEq, Int.reduceBNe, Int.reduceToNat, Int.reduceGT, Int.reduceGE, ↓reduceIte, decide_true, decide_false, eq_self, Nat.mul_one, Nat.zero_mul, Nat.one_mul, Int.le_refl, Nat.le_refl, Int.cast_ofNat_Int, List.take_length, hGG]
      refine pwpC_loopU (A := { i : Nat // i ≤ T.length ∧ ∀ i' k' : Nat, i' < i → (k' : Int) ≤ nthI T (i' : Int) → badAt G M i' k' = false }) [1, 2, 4, 5, 6, 10, 11, 88, 89] (fun i => [(90, .t (.int .i64 i.1))]) (fun k => []) (fun i => T.length - i.1) ⟨0, by omega, fun i' k' h => by omega⟩ (by decide) (fun _ => by rfl) ?_ fun Q5 hQ5 ⟨i, hi, hno⟩ I5 hI5 => ?_
      ·simp (decide := true) (maxSteps := 4000000) only [go_sem, Nat.reduceAdd, Nat.reduceSub, Nat.reduceMul, Nat.reduceDiv, Nat.reduceMod, Nat.reduceLT, Nat.reduceLeDiff, Nat.reduceEqDiff, Nat.reduceBEq, Nat.reduceBNe, Nat.reduceGT, Int.reduceAdd, Int.reduceSub, Int.reduceMul, Int.reduceNeg, Int.reduceLT, Int.reduceLE, Int.reduceEq, Int.reduceNe, Int.reduceBEq, Int.reduceBNe, Int.reduceToNat, Int.reduceGT, Int.reduceGE, ↓reduceIte, decide_true, decide_false, eq_self, Nat.mul_one, Nat.zero_mul, Nat.one_mul, Int.le_refl, Nat.le_refl, Int.cast_ofNat_Int, cells_self, c36_under]
      ·by_cases hlt4 : (i : Int) < T.length
       ·obtain ⟨x, hx⟩ := get_lt hlt4
        have hd := ints_at hx
        rw [Nat.mul_one] at hd
        have hx8 := hT8 x (List.mem_of_getElem? hx)
        have hxn := nthI_at hx
        have hw5 : IntKind.i64.wrap ((i : Int) + 1) = ((i + 1 : Nat) : Int) := by rw [wrap_in (by omega) (by omega)]; omega
        have hw6 : IntKind.i64.wrap (x + 1) = x + 1 := wrap_in (by omega) (by omega)
        have hi4 : (i : Int) < 4 := by omega
        simp (decide := true) (maxSteps := 4000000) only [go_sem, Nat.reduceAdd, Nat.reduceSub, Nat.reduceMul, Nat.reduceDiv, Nat.reduceMod, Nat.reduceLT, Nat.reduceLeDiff, Nat.reduceEqDiff, Nat.reduceBEq, Nat.reduceBNe, Nat.reduceGT, Int.reduceAdd, Int.reduceSub, Int.reduceMul, Int.reduceNeg, Int.reduceLT, Int.reduceLE, Int.reduceEq, Int.reduceNe, Int.reduceBEq, Int.reduceBNe, Int.reduceToNat, Int.reduceGT, Int.reduceGE, ↓reduceIte, decide_true, decide_false, eq_self, Nat.mul_one, Nat.zero_mul, Nat.one_mul, Int.le_refl, Nat.le_refl, Int.cast_ofNat_Int, hlt4, hd, hw6]
        refine pwpC_loopU (A := { k : Nat // (k : Int) ≤ x + 1 ∧ ∀ k' : Nat, k' < k → badAt G M i k' = false }) [1, 2, 4, 5, 6, 10, 11, 88, 89, 90, 16, 17, 96] (fun k => [(97, .t (.int .i64 k.1))]) (fun k => []) (fun k => (x + 1).toNat - k.1) ⟨0, by omega, fun k' h => by omega⟩ (by decide) (fun _ => by rfl) ?_ fun Q6 hQ6 ⟨k, hk6, hno6⟩ I6 hI6 => ?_
        ·simp (decide := true) (maxSteps := 4000000) only [go_sem, Nat.reduceAdd, Nat.reduceSub, Nat.reduceMul, Nat.reduceDiv, Nat.reduceMod, Nat.reduceLT, Nat.reduceLeDiff, Nat.reduceEqDiff, Nat.reduceBEq, Nat.reduceBNe, Nat.reduceGT, Int.reduceAdd, Int.reduceSub, Int.reduceMul, Int.reduceNeg, Int.reduceLT, Int.reduceLE, Int.reduceEq, Int.reduceNe, Int.reduceBEq, Int.reduceBNe, Int.reduceToNat, Int.reduceGT, Int.reduceGE, ↓reduceIte, decide_true, decide_false, eq_self, Nat.mul_one, Nat.zero_mul, Nat.one_mul, Int.le_refl, Nat.le_refl, Int.cast_ofNat_Int, cells_self, c36_under]
        ·by_cases hlt5 : (k : Int) < x + 1
         ·have hk9 : (k : Int) < 9 := by omega
          have ho : i * 9 + k < 36 := by omega
          have ho0 : i * 9 < 36 := by omega
          have e1 := c36_at G ho
          have e2 := c36_at G ho0
          have hwM : IntKind.i64.wrap (0 - M) = -M := by rw [wrap_in (by omega) (by omega)]; omega
          have hw7 : IntKind.i64.wrap ((k : Int) + 1) = ((k + 1 : Nat) : Int) := by rw [wrap_in (by omega) (by omega)]; omega
          have hbd : badAt G M i k = (decide (G (i * 9 + k) < -M) || decide (G (i * 9) < 0)) := rfl
          cases hb : badAt G M i k with
          | true =>
           have hbG : badG T M G = true := badG_t (T := T) (M := M) (f := G) ⟨i, k, by omega, by rw [hxn]; omega, hb⟩
           rw [hbG, if_pos rfl] at hgl2
           rw [hb] at hbd
           by_cases c1 : G (i * 9 + k) < -M
           ·simp (decide := true) (maxSteps := 4000000) only [go_sem, Nat.reduceAdd, Nat.reduceSub, Nat.reduceMul, Nat.reduceDiv, Nat.reduceMod, Nat.reduceLT, Nat.reduceLeDiff, Nat.reduceEqDiff, Nat.reduceBEq, Nat.reduceBNe, Nat.reduceGT, Int.reduceAdd, Int.reduceSub, Int.reduceMul, Int.reduceNeg, Int.reduceLT, Int.reduceLE, Int.reduceEq, Int.reduceNe, Int.reduceBEq, Int.reduceBNe, Int.reduceToNat, Int.reduceGT, Int.reduceGE, ↓reduceIte, decide_true, decide_false, eq_self, Nat.mul_one, Nat.zero_mul, Nat.one_mul, Int.le_refl, Nat.le_refl, Int.cast_ofNat_Int, hlt5, hk9, hi4, e1, e2, hwM, c1, c36_len, c36_all, c36_take, t36_map, c36_drop, List.append_nil]
            refine hQ6 _ _ ?_
            simp (decide := true) (maxSteps := 4000000) only [go_sem, Nat.reduceAdd, Nat.reduceSub, Nat.reduceMul, Nat.reduceDiv, Nat.reduceMod, Nat.reduceLT, Nat.reduceLeDiff, Nat.reduceEqDiff, Nat.reduceBEq, Nat.reduceBNe, Nat.reduceGT, Int.reduceAdd, Int.reduceSub, Int.reduceMul, Int.reduceNeg, Int.reduceLT, Int.reduceLE, Int.reduceEq, Int.reduceNe, Int.reduceBEq, Int.reduceBNe, Int.reduceToNat, Int.reduceGT, Int.reduceGE, ↓reduceIte, decide_true, decide_false, eq_self, Nat.mul_one, Nat.zero_mul, Nat.one_mul, Int.le_refl, Nat.le_refl, Int.cast_ofNat_Int]
            refine hQ5 _ _ ?_
            simp (decide := true) (maxSteps := 4000000) only [go_sem, Nat.reduceAdd, Nat.reduceSub, Nat.reduceMul, Nat.reduceDiv, Nat.reduceMod, Nat.reduceLT, Nat.reduceLeDiff, Nat.reduceEqDiff, Nat.reduceBEq, Nat.reduceBNe, Nat.reduceGT, Int.reduceAdd, Int.reduceSub, Int.reduceMul, Int.reduceNeg, Int.reduceLT, Int.reduceLE, Int.reduceEq, Int.reduceNe, Int.reduceBEq, Int.reduceBNe, Int.reduceToNat, Int.reduceGT, Int.reduceGE, ↓reduceIte, decide_true, decide_false, eq_self, Nat.mul_one, Nat.zero_mul, Nat.one_mul, Int.le_refl, Nat.le_refl, Int.cast_ofNat_Int]
            refine hQ3 _ _ ?_
            simp (decide := true) (maxSteps := 4000000) only [go_sem, Nat.reduceAdd, Nat.reduceSub, Nat.reduceMul, Nat.reduceDiv, Nat.reduceMod, Nat.reduceLT, Nat.reduceLeDiff, Nat.reduceEqDiff, Nat.reduceBEq, Nat.reduceBNe, Nat.reduceGT, Int.reduceAdd, Int.reduceSub, Int.reduceMul, Int.reduceNeg, Int.reduceLT, Int.reduceLE, Int.reduceEq, Int.reduceNe, Int.reduceBEq, Int.reduceBNe, Int.reduceToNat, Int.reduceGT, Int.reduceGE, ↓reduceIte, decide_true, decide_false, eq_self, Nat.mul_one, Nat.zero_mul, Nat.one_mul, Int.le_refl, Nat.le_refl, Int.cast_ofNat_Int, c36_len, c36_all, c36_take, t36_map, c36_drop, List.append_nil, hgl2]
            first | done | trace_state
           ·have c2 : G (i * 9) < 0 := by simpa [c1] using hbd
            simp (decide := true) (maxSteps := 4000000) only [go_sem, Nat.reduceAdd, Nat.reduceSub, Nat.reduceMul, Nat.reduceDiv, Nat.reduceMod, Nat.reduceLT, Nat.reduceLeDiff, Nat.reduceEqDiff, Nat.reduceBEq, Nat.reduceBNe, Nat.reduceGT, Int.reduceAdd, Int.reduceSub, Int.reduceMul, Int.reduceNeg, Int.reduceLT, Int.reduceLE, Int.reduceEq, Int.reduceNe, Int.reduceBEq, Int.reduceBNe, Int.reduceToNat, Int.reduceGT, Int.reduceGE, ↓reduceIte, decide_true, decide_false, eq_self, Nat.mul_one, Nat.zero_mul, Nat.one_mul, Int.le_refl, Nat.le_refl, Int.cast_ofNat_Int, hlt5, hk9, hi4, e1, e2, hwM, c1, c2, c36_len, c36_all, c36_take, t36_map, c36_drop, List.append_nil]
            refine hQ6 _ _ ?_
            simp (decide := true) (maxSteps := 4000000) only [go_sem, Nat.reduceAdd, Nat.reduceSub, Nat.reduceMul, Nat.reduceDiv, Nat.reduceMod, Nat.reduceLT, Nat.reduceLeDiff, Nat.reduceEqDiff, Nat.reduceBEq, Nat.reduceBNe, Nat.reduceGT, Int.reduceAdd, Int.reduceSub, Int.reduceMul, Int.reduceNeg, Int.reduceLT, Int.reduceLE, Int.reduceEq, Int.reduceNe, Int.reduceBEq, Int.reduceBNe, Int.reduceToNat, Int.reduceGT, Int.reduceGE, ↓reduceIte, decide_true, decide_false, eq_self, Nat.mul_one, Nat.zero_mul, Nat.one_mul, Int.le_refl, Nat.le_refl, Int.cast_ofNat_Int]
            refine hQ5 _ _ ?_
            simp (decide := true) (maxSteps := 4000000) only [go_sem, Nat.reduceAdd, Nat.reduceSub, Nat.reduceMul, Nat.reduceDiv, Nat.reduceMod, Nat.reduceLT, Nat.reduceLeDiff, Nat.reduceEqDiff, Nat.reduceBEq, Nat.reduceBNe, Nat.reduceGT, Int.reduceAdd, Int.reduceSub, Int.reduceMul, Int.reduceNeg, Int.reduceLT, Int.reduceLE, Int.reduceEq, Int.reduceNe, Int.reduceBEq, Int.reduceBNe, Int.reduceToNat, Int.reduceGT, Int.reduceGE, ↓reduceIte, decide_true, decide_false, eq_self, Nat.mul_one, Nat.zero_mul, Nat.one_mul, Int.le_refl, Nat.le_refl, Int.cast_ofNat_Int]
            refine hQ3 _ _ ?_
            simp (decide := true) (maxSteps := 4000000) only [go_sem, Nat.reduceAdd, Nat.reduceSub, Nat.reduceMul, Nat.reduceDiv, Nat.reduceMod, Nat.reduceLT, Nat.reduceLeDiff, Nat.reduceEqDiff, Nat.reduceBEq, Nat.reduceBNe, Nat.reduceGT, Int.reduceAdd, Int.reduceSub, Int.reduceMul, Int.reduceNeg, Int.reduceLT, Int.reduceLE, Int.reduceEq, Int.reduceNe, Int.reduceBEq, Int.reduceBNe, Int.reduceToNat, Int.reduceGT, Int.reduceGE, ↓reduceIte, decide_true, decide_false, eq_self, Nat.mul_one, Nat.zero_mul, Nat.one_mul, Int.le_refl, Nat.le_refl, Int.cast_ofNat_Int, c36_len, c36_all, c36_take, t36_map, c36_drop, List.append_nil, hgl2]
            first | done | trace_state
          | false =>
           rw [hb] at hbd
           have c1 : ¬ G (i * 9 + k) < -M := fun h => by simp [h] at hbd
           have c2 : ¬ G (i * 9) < 0 := fun h => by simp [h] at hbd
           simp (decide := true) (maxSteps := 4000000) only [go_sem, Nat.reduceAdd, Nat.reduceSub, Nat.reduceMul, Nat.reduceDiv, Nat.reduceMod, Nat.reduceLT, Nat.reduceLeDiff, Nat.reduceEqDiff, Nat.reduceBEq, Nat.reduceBNe, Nat.reduceGT, Int.reduceAdd, Int.reduceSub, Int.reduceMul, Int.reduceNeg, Int.reduceLT, Int.reduceLE, Int.reduceEq, Int.reduceNe, Int.reduceBEq, Int.reduceBNe, Int.reduceToNat, Int.reduceGT, Int.reduceGE, ↓reduceIte, decide_true, decide_false, eq_self, Nat.mul_one, Nat.zero_mul, Nat.one_mul, Int.le_refl, Nat.le_refl, Int.cast_ofNat_Int, hlt5, hk9, hi4, e1, e2, hwM, c1, c2, hw7]
           refine hI6 _ ⟨k + 1, by omega, fun k' hk' => ?_⟩ (by simp only; omega) ?_
           ·by_cases e : k' = k
            ·subst e; exact hb
            ·exact hno6 k' (by omega)
           simp (decide := true) (maxSteps := 4000000) only [go_sem, Nat.reduceAdd, Nat.reduceSub, Nat.reduceMul, Nat.reduceDiv, Nat.reduceMod, Nat.reduceLT, Nat.reduceLeDiff, Nat.reduceEqDiff, Nat.reduceBEq, Nat.reduceBNe, Nat.reduceGT, Int.reduceAdd, Int.reduceSub, Int.reduceMul, Int.reduceNeg, Int.reduceLT, Int.reduceLE, Int.reduceEq, Int.reduceNe, Int.reduceBEq, Int.reduceBNe, Int.reduceToNat, Int.reduceGT, Int.reduceGE, ↓reduceIte, decide_true, decide_false, eq_self, Nat.mul_one, Nat.zero_mul, Nat.one_mul, Int.le_refl, Nat.le_refl, Int.cast_ofNat_Int, hw7, cells_self, c36_under]
           first | done | trace_state
         ·simp (decide := true) (maxSteps := 4000000) only [go_sem, Nat.reduceAdd, Nat.reduceSub, Nat.reduceMul, Nat.reduceDiv, Nat.reduceMod, Nat.reduceLT, Nat.reduceLeDiff, Nat.reduceEqDiff, Nat.reduceBEq, Nat.reduceBNe, Nat.reduceGT, Int.reduceAdd, Int.reduceSub, Int.reduceMul, Int.reduceNeg, Int.reduceLT, Int.reduceLE, Int.reduceEq, Int.reduceNe, Int.reduceBEq, Int.reduceBNe, Int.reduceToNat, Int.reduceGT, Int.reduceGE, ↓reduceIte, decide_true, decide_false, eq_self, Nat.mul_one, Nat.zero_mul, Nat.one_mul, Int.le_refl, Nat.le_refl, Int.cast_ofNat_Int, hlt5]
          refine hQ6 _ _ ?_
          simp (decide := true) (maxSteps := 4000000) only [go_sem, Nat.reduceAdd, Nat.reduceSub, Nat.reduceMul, Nat.reduceDiv, Nat.reduceMod, Nat.reduceLT, Nat.reduceLeDiff, Nat.reduceEqDiff, Nat.reduceBEq, Nat.reduceBNe, Nat.reduceGT, Int.reduceAdd, Int.reduceSub, Int.reduceMul, Int.reduceNeg, Int.reduceLT, Int.reduceLE, Int.reduceEq, Int.reduceNe, Int.reduceBEq, Int.reduceBNe, Int.reduceToNat, Int.reduceGT, Int.reduceGE, ↓reduceIte, decide_true, decide_false, eq_self, Nat.mul_one, Nat.zero_mul, Nat.one_mul, Int.le_refl, Nat.le_refl, Int.cast_ofNat_Int]
          refine hI5 _ ⟨i + 1, by omega, fun i' k' hi' hk' => ?_⟩ (by simp only; omega) ?_
          ·by_cases e : i' = i
           ·subst e; rw [hxn] at hk'; exact hno6 k' (by omega)
           ·exact hno i' k' (by omega) hk'
          simp (decide := true) (maxSteps := 4000000) only [go_sem, Nat.reduceAdd, Nat.reduceSub, Nat.reduceMul, Nat.reduceDiv, Nat.reduceMod, Nat.reduceLT, Nat.reduceLeDiff, Nat.reduceEqDiff, Nat.reduceBEq, Nat.reduceBNe, Nat.reduceGT, Int.reduceAdd, Int.reduceSub, Int.reduceMul, Int.reduceNeg, Int.reduceLT, Int.reduceLE, Int.reduceEq, Int.reduceNe, Int.reduceBEq, Int.reduceBNe, Int.reduceToNat, Int.reduceGT, Int.reduceGE, ↓reduceIte, decide_true, decide_false, eq_self, Nat.mul_one, Nat.zero_mul, Nat.one_mul, Int.le_refl, Nat.le_refl, Int.cast_ofNat_Int, hw5, cells_self, c36_under]
          first | done | trace_state
       ·have hie : i = T.length := by omega
        subst hie
        have hbG : badG T M G = false := by
         refine badG_f ?_
         rintro ⟨i, k, h1, h2, h3⟩
         rw [hno i k h1 h2] at h3; cases h3
        rw [hbG] at hgl2
        simp only [Bool.false_eq_true, if_false] at hgl2
        simp (decide := true) (maxSteps := 4000000) only [go_sem, Nat.reduceAdd, Nat.reduceSub, Nat.reduceMul, Nat.reduceDiv, Nat.reduceMod, Nat.reduceLT, Nat.reduceLeDiff, Nat.reduceEqDiff, Nat.reduceBEq, Nat.reduceBNe, Nat.reduceGT, Int.reduceAdd, Int.reduceSub, Int.reduceMul, Int.reduceNeg, Int.reduceLT, Int.reduceLE, Int.reduceEq, Int.reduceNe, Int.reduceBEq, Int.reduceBNe, Int.reduceToNat, Int.reduceGT, Int.reduceGE, ↓reduceIte, decide_true, decide_false, eq_self, Nat.mul_one, Nat.zero_mul, Nat.one_mul, Int.le_refl, Nat.le_refl, Int.cast_ofNat_Int, hlt4]
        refine hQ5 _ _ ?_
        cases h36 : all36 G f with
        | true =>
         rw [h36, if_pos rfl] at hgl2
         simp (decide := true) (maxSteps := 4000000) only [go_sem, Nat.reduceAdd, Nat.reduceSub, Nat.reduceMul, Nat.reduceDiv, Nat.reduceMod, Nat.reduceLT, Nat.reduceLeDiff, Nat.reduceEqDiff, Nat.reduceBEq, Nat.reduceBNe, Nat.reduceGT, Int.reduceAdd, Int.reduceSub, Int.reduceMul, Int.reduceNeg, Int.reduceLT, Int.reduceLE, Int.reduceEq, Int.reduceNe, Int.reduceBEq, Int.reduceBNe, Int.reduceToNat, Int.reduceGT, Int.reduceGE, ↓reduceIte, decide_true, decide_false, eq_self, Nat.mul_one, Nat.zero_mul, Nat.one_mul, Int.le_refl, Nat.le_refl, Int.cast_ofNat_Int, c36_len, c36_all, c36_take, t36_map, c36_drop, List.append_nil, eqT_36, h36]
         refine hQ3 _ _ ?_
         simp (decide := true) (maxSteps := 4000000) only [go_sem, Nat.reduceAdd, Nat.reduceSub, Nat.reduceMul, Nat.reduceDiv, Nat.reduceMod, Nat.reduceLT, Nat.reduceLeDiff, Nat.reduceEqDiff, Nat.reduceBEq, Nat.reduceBNe, Nat.reduceGT, Int.reduceAdd, Int.reduceSub, Int.reduceMul, Int.reduceNeg, Int.reduceLT, Int.reduceLE, Int.reduceEq, Int.reduceNe, Int.reduceBEq, Int.reduceBNe, Int.reduceToNat, Int.reduceGT, Int.reduceGE, ↓reduceIte, decide_true, decide_false, eq_self, Nat.mul_one, Nat.zero_mul, Nat.one_mul, Int.le_refl, Nat.le_refl, Int.cast_ofNat_Int, c36_len, c36_all, c36_take, t36_map, c36_drop, List.append_nil, hgl2]
         first | done | trace_state
        | false =>
         rw [h36] at hgl2
         simp only [Bool.false_eq_true, if_false] at hgl2
         have hw8 : IntKind.i64.wrap ((N : Int) - m + 1) = (N : Int) - m + 1 := wrap_in (by omega) (by omega)
         cases m with
         | zero =>
          have hw8' : IntKind.i64.wrap ((N : Int) - 0 + 1) = N + 1 := by rw [wrap_in (by omega) (by omega)]; omega
          have hgt : (N : Int) + 1 > N := by omega
          have hgl3 : greatG T M L = (G, false) := hgl2
          simp (decide := true) (maxSteps := 4000000) only [go_sem, Nat.reduceAdd, Nat.reduceSub, Nat.reduceMul, Nat.reduceDiv, Nat.reduceMod, Nat.reduceLT, Nat.reduceLeDiff, Nat.reduceEqDiff, Nat.reduceBEq, Nat.reduceBNe, Nat.reduceGT, Int.reduceAdd, Int.reduceSub, Int.reduceMul, Int.reduceNeg, Int.reduceLT, Int.reduceLE, Int.reduceEq, Int.reduceNe, Int.reduceBEq, Int.reduceBNe, Int.reduceToNat, Int.reduceGT, Int.reduceGE, ↓reduceIte, decide_true, decide_false, eq_self, Nat.mul_one, Nat.zero_mul, Nat.one_mul, Int.le_refl, Nat.le_refl, Int.cast_ofNat_Int, c36_len, c36_all, c36_take, t36_map, c36_drop, List.append_nil, eqT_36, h36, hw8', hgt, hgl3]
          refine hQ3 _ _ ?_
          simp (decide := true) (maxSteps := 4000000) only [go_sem, Nat.reduceAdd, Nat.reduceSub, Nat.reduceMul, Nat.reduceDiv, Nat.reduceMod, Nat.reduceLT, Nat.reduceLeDiff, Nat.reduceEqDiff, Nat.reduceBEq, Nat.reduceBNe, Nat.reduceGT, Int.reduceAdd, Int.reduceSub, Int.reduceMul, Int.reduceNeg, Int.reduceLT, Int.reduceLE, Int.reduceEq, Int.reduceNe, Int.reduceBEq, Int.reduceBNe, Int.reduceToNat, Int.reduceGT, Int.reduceGE, ↓reduceIte, decide_true, decide_false, eq_self, Nat.mul_one, Nat.zero_mul, Nat.one_mul, Int.le_refl, Nat.le_refl, Int.cast_ofNat_Int, c36_len, c36_all, c36_take, t36_map, c36_drop, List.append_nil, hgl3]
          first | done | trace_state
         | succ m =>
          have hgt : ¬ (N : Int) - (m + 1 : Nat) + 1 > N := by omega
          simp (decide := true) (maxSteps := 4000000) only [go_sem, Nat.reduceAdd, Nat.reduceSub, Nat.reduceMul, Nat.reduceDiv, Nat.reduceMod, Nat.reduceLT, Nat.reduceLeDiff, Nat.reduceEqDiff, Nat.reduceBEq, Nat.reduceBNe, Nat.reduceGT, Int.reduceAdd, Int.reduceSub, Int.reduceMul, Int.reduceNeg, Int.reduceLT, Int.reduceLE, Int.reduceEq, Int.reduceNe, Int.reduceBEq, Int.reduceBNe, Int.reduceToNat, Int.reduceGT, Int.reduceGE, ↓reduceIte, decide_true, decide_false, eq_self, Nat.mul_one, Nat.zero_mul, Nat.one_mul, Int.le_refl, Nat.le_refl, Int.cast_ofNat_Int, c36_len, c36_all, c36_take, t36_map, c36_drop, List.append_nil, eqT_36, h36, hw8, hgt]
          refine hI3 _ ⟨(m, G), by simp only; omega, hgl2.symm⟩ (by simp only; omega) ?_
          have hw9 : (N : Int) - (m + 1 : Nat) + 1 = N - m := by omega
          simp (decide := true) (maxSteps := 4000000) only [go_sem, Nat.reduceAdd, Nat.reduceSub, Nat.reduceMul, Nat.reduceDiv, Nat.reduceMod, Nat.reduceLT, Nat.reduceLeDiff, Nat.reduceEqDiff, Nat.reduceBEq, Nat.reduceBNe, Nat.reduceGT, Int.reduceAdd, Int.reduceSub, Int.reduceMul, Int.reduceNeg, Int.reduceLT, Int.reduceLE, Int.reduceEq, Int.reduceNe, Int.reduceBEq, Int.reduceBNe, Int.reduceToNat, Int.reduceGT, Int.reduceGE, ↓reduceIte, decide_true, decide_false, eq_self, Nat.mul_one, Nat.zero_mul, Nat.one_mul, Int.le_refl, Nat.le_refl, Int.cast_ofNat_Int, hw9, cells_self, c36_under]
          first | done | trace_state
theorem fGreat0_c {T : List Int} {M : Int} (fT : Bool) (hs : setOk T M) :
  PCalls Tryd.prog 129 [.agg [.sl (ints T) T.length fT, .int .i64 M], .nilSl] (.tup [.agg (t36 (greatG T M ([] : List Rd)).1), .bool (greatG T M ([] : List Rd)).2]) := by
 obtain ⟨hT, hM, hT8⟩ := hs
 have hlow : ∀ ps hl v hl', lowG ps hl = some (v, hl') → HCalls Tryd.prog 159 ps (getL hl) v (getL hl') := by
  intro ps hl v hl' e
  unfold lowG at e
  split at e
  ·rename_i h
   obtain ⟨e1, e2, e3⟩ := h.choose_spec.choose_spec.choose_spec
   generalize h.choose_spec.choose_spec.choose = x' at *
   generalize h.choose_spec.choose = o' at *
   generalize h.choose = g' at *
   cases e
   rw [e2, e3]
   exact fLower_c g' e1 x'
  ·cases e
 have hG : greatG T M ([] : List Rd) = gLoop T M ([] : List Rd) ((sumT T).toNat + 1) (initV T M T.length 0) := rfl
 have hS := sumT_le hT8 1
 have hz : c36 (initV T M 0 0) = List.replicate 36 (.t (.int .i64 0)) := by
  rw [c36_congr (g := fun _ => 0) (fun v _ => initV_zero T M v)]; rfl
 refine pcalls_by Tryd.mixes (Spec.oneH_ok hlow noSpec_ok) (fn := Tryd.f129) Tryd.func129 rfl (by kernel_rfl) (by show 2 ≤ _; decide) ?_
 simp (decide := true) (maxSteps := 4000000) only [go_sem, Nat.reduceAdd, Nat.reduceSub, Nat.reduceMul, Nat.reduceDiv, Nat.reduceMod, Nat.reduceLT, Nat.reduceLeDiff, Nat.reduceEqDiff, Nat.reduceBEq, Nat.reduceBNe, Nat.reduceGT, Int.reduceAdd, Int.reduceSub, Int.reduceMul, Int.reduceNeg, Int.reduceLT, Int.reduceLE, Int.reduceEq, Int.reduceNe, Int.reduceBEq, Int.reduceBNe, Int.reduceToNat, Int.reduceGT, Int.reduceGE, ↓reduceIte, decide_true, decide_false, eq_self, Nat.mul_one, Nat.zero_mul, Nat.one_mul, Int.le_refl, Nat.le_refl, Int.cast_ofNat_Int, Tryd.f129]
 refine pwpC_loopU (A := { i : Nat // i ≤ T.length }) [1, 2, 4, 5, 20, 21] (fun i => [(22, .t (.int .i64 i.1)), (6, .t (.int .i64 (sumT (T.take i.1))))]) (fun i => [(1, .box (c36 (initV T M i.1 0)))]) (fun i => T.length - i.1) ⟨0, by omega⟩ (by decide) (fun _ => by rfl) ?_ fun Q1 hQ1 ⟨i, hi⟩ I1 hI1 => ?_
 ·simp (decide := true) (maxSteps := 4000000) only [go_sem, Nat.reduceAdd, Nat.reduceSub, Nat.reduceMul, Nat.reduceDiv, Nat.reduceMod, Nat.reduceLT, Nat.reduceLeDiff, Nat.reduceEqDiff, Nat.reduceBEq, Nat.reduceBNe, Nat.reduceGT, Int.reduceAdd, Int.reduceSub, Int.reduceMul, Int.reduceNeg, Int.reduceLT, Int.reduceLE, Int.reduceEq, Int.reduceNe, Int.reduceBEq, Int.reduceBNe, Int.reduceToNat, Int.reduceGT, Int.reduceGE, ↓reduceIte, decide_true, decide_false, eq_self, Nat.mul_one, Nat.zero_mul, Nat.one_mul, Int.le_refl, Nat.le_refl, Int.cast_ofNat_Int, hz, sumT, List.take_zero]
  first | done | rfl
 ·by_cases hlt : (i : Int) < T.length
  ·obtain ⟨x, hx⟩ := get_lt hlt
   have hd := ints_at hx
   rw [Nat.mul_one] at hd
   have hx8 := hT8 x (List.mem_of_getElem? hx)
   have hsm := sumT_take T hx
   have hsb := sumT_le (T := T.take i) (fun y hy => hT8 y (List.mem_of_mem_take hy)) 1
   rw [List.length_take] at hsb
   have hw1 : IntKind.i64.wrap (sumT (T.take i) + x) = sumT (T.take (i + 1)) := by rw [hsm]; unfold sumT; exact wrap_in (by omega) (by omega)
   have hw2 : IntKind.i64.wrap ((i : Int) + 1) = ((i + 1 : Nat) : Int) := by rw [wrap_in (by omega) (by omega)]; omega
   have hrow := initV_row T M (nthI_at hx)
   simp (decide := true) (maxSteps := 4000000) only [go_sem, Nat.reduceAdd, Nat.reduceSub, Nat.reduceMul, Nat.reduceDiv, Nat.reduceMod, Nat.reduceLT, Nat.reduceLeDiff, Nat.reduceEqDiff, Nat.reduceBEq, Nat.reduceBNe, Nat.reduceGT, Int.reduceAdd, Int.reduceSub, Int.reduceMul, Int.reduceNeg, Int.reduceLT, Int.reduceLE, Int.reduceEq, Int.reduceNe, Int.reduceBEq, Int.reduceBNe, Int.reduceToNat, Int.reduceGT, Int.reduceGE, ↓reduceIte, decide_true, decide_false, eq_self, Nat.mul_one, Nat.zero_mul, Nat.one_mul, Int.le_refl, Nat.le_refl, Int.cast_ofNat_Int, hlt, hd, hw1]
   refine pwpC_loopU (A := { k : Nat // (k : Int) ≤ x }) [1, 2, 4, 5, 20, 21, 22, 6, 7, 30] (fun k => [(31, .t (.int .i64 k.1))]) (fun k => [(1, .box (c36 (initV T M i k.1)))]) (fun k => x.toNat - k.1) ⟨0, by omega⟩ (by decide) (fun _ => by rfl) ?_ fun Q2 hQ2 ⟨k, hk⟩ I2 hI2 => ?_
   ·simp (decide := true) (maxSteps := 4000000) only [go_sem, Nat.reduceAdd, Nat.reduceSub, Nat.reduceMul, Nat.reduceDiv, Nat.reduceMod, Nat.reduceLT, Nat.reduceLeDiff, Nat.reduceEqDiff, Nat.reduceBEq, Nat.reduceBNe, Nat.reduceGT, Int.reduceAdd, Int.reduceSub, Int.reduceMul, Int.reduceNeg, Int.reduceLT, Int.reduceLE, Int.reduceEq, Int.reduceNe, Int.reduceBEq, Int.reduceBNe, Int.reduceToNat, Int.reduceGT, Int.reduceGE, ↓reduceIte, decide_true, decide_false, eq_self, Nat.mul_one, Nat.zero_mul, Nat.one_mul, Int.le_refl, Nat.le_refl, Int.cast_ofNat_Int, cells_self, c36_under]
   ·by_cases hlt2 : (k : Int) < x
    ·have hnx := initV_next T M (show k < 8 by omega) (nthI_at hx) hlt2
     have hw3 : IntKind.i64.wrap ((k : Int) + 1) = ((k + 1 : Nat) : Int) := by rw [wrap_in (by omega) (by omega)]; omega
     have hi4 : (i : Int) < 4 := by omega
     have hk9 : ((k + 1 : Nat) : Int) < 9 := by omega
     have ho : i * 9 + (k + 1) < 36 := by omega
     have ho5 : i * 9 + (k + 1) ≤ 35 := by omega
     have hset := c36_set (initV T M i k) ho M
     simp only [List.append_assoc, List.cons_append, List.nil_append] at hset
     simp (decide := true) (maxSteps := 4000000) only [go_sem, Nat.reduceAdd, Nat.reduceSub, Nat.reduceMul, Nat.reduceDiv, Nat.reduceMod, Nat.reduceLT, Nat.reduceLeDiff, Nat.reduceEqDiff, Nat.reduceBEq, Nat.reduceBNe, Nat.reduceGT, Int.reduceAdd, Int.reduceSub, Int.reduceMul, Int.reduceNeg, Int.reduceLT, Int.reduceLE, Int.reduceEq, Int.reduceNe, Int.reduceBEq, Int.reduceBNe, Int.reduceToNat, Int.reduceGT, Int.reduceGE, ↓reduceIte, decide_true, decide_false, eq_self, Nat.mul_one, Nat.zero_mul, Nat.one_mul, Int.le_refl, Nat.le_refl, Int.cast_ofNat_Int, hlt2, hi4, hk9, hw3, c36_len, ho5, List.append_assoc, hset]
     refine hI2 _ ⟨k + 1, by omega⟩ (by simp only; omega) ?_
     simp (decide := true) (maxSteps := 4000000) only [go_sem, Nat.reduceAdd, Nat.reduceSub, Nat.reduceMul, Nat.reduceDiv, Nat.reduceMod, Nat.reduceLT, Nat.reduceLeDiff, Nat.reduceEqDiff, Nat.reduceBEq, Nat.reduceBNe, Nat.reduceGT, Int.reduceAdd, Int.reduceSub, Int.reduceMul, Int.reduceNeg, Int.reduceLT, Int.reduceLE, Int.reduceEq, Int.reduceNe, Int.reduceBEq, Int.reduceBNe, Int.reduceToNat, Int.reduceGT, Int.reduceGE, ↓reduceIte, decide_true, decide_false, eq_self, Nat.mul_one, Nat.zero_mul, Nat.one_mul, Int.le_refl, Nat.le_refl, Int.cast_ofNat_Int, hnx, cells_self, c36_under]
    ·have hke : (k : Int) = x := by omega
     simp (decide := true) (maxSteps := 4000000) only [go_sem, Nat.reduceAdd, Nat.reduceSub, Nat.reduceMul, Nat.reduceDiv, Nat.reduceMod, Nat.reduceLT, Nat.reduceLeDiff, Nat.reduceEqDiff, Nat.reduceBEq, Nat.reduceBNe, Nat.reduceGT, Int.reduceAdd, Int.reduceSub, Int.reduceMul, Int.reduceNeg, Int.reduceLT, Int.reduceLE, Int.reduceEq, Int.reduceNe, Int.reduceBEq, Int.reduceBNe, Int.reduceToNat, Int.reduceGT, Int.reduceGE, ↓reduceIte, decide_true, decide_false, eq_self, Nat.mul_one, Nat.zero_mul, Nat.one_mul, Int.le_refl, Nat.le_refl, Int.cast_ofNat_Int, hlt2]
     refine hQ2 _ _ ?_
     simp (decide := true) (maxSteps := 4000000) only [go_sem, Nat.reduceAdd, Nat.reduceSub, Nat.reduceMul, Nat.reduceDiv, Nat.reduceMod, Nat.reduceLT, Nat.reduceLeDiff, Nat.reduceEqDiff, Nat.reduceBEq, Nat.reduceBNe, Nat.reduceGT, Int.reduceAdd, Int.reduceSub, Int.reduceMul, Int.reduceNeg, Int.reduceLT, Int.reduceLE, Int.reduceEq, Int.reduceNe, Int.reduceBEq, Int.reduceBNe, Int.reduceToNat, Int.reduceGT, Int.reduceGE, ↓reduceIte, decide_true, decide_false, eq_self, Nat.mul_one, Nat.zero_mul, Nat.one_mul, Int.le_refl, Nat.le_refl, Int.cast_ofNat_Int, hw2]
     refine hI1 _ ⟨i + 1, by omega⟩ (by simp only; omega) ?_
     simp (decide := true) (maxSteps := 4000000) only [go_sem, Nat.reduceAdd, Nat.reduceSub, Nat.reduceMul, Nat.reduceDiv, Nat.reduceMod, Nat.reduceLT, Nat.reduceLeDiff, Nat.reduceEqDiff, Nat.reduceBEq, Nat.reduceBNe, Nat.reduceGT, Int.reduceAdd, Int.reduceSub, Int.reduceMul, Int.reduceNeg, Int.reduceLT, Int.reduceLE, Int.reduceEq, Int.reduceNe, Int.reduceBEq, Int.reduceBNe, Int.reduceToNat, Int.reduceGT, Int.reduceGE, ↓reduceIte, decide_true, decide_false, eq_self, Nat.mul_one, Nat.zero_mul, Nat.one_mul, Int.le_refl, Nat.le_refl, Int.cast_ofNat_Int, hrow, hke, cells_self, c36_under]
  ·have hie : i = T.length := by omega
   subst hie
   simp (decide := true) (maxSteps := 4000000) only [go_sem, Nat.reduceAdd, Nat.reduceSub, Nat.reduceMul, Nat.reduceDiv, Nat.reduceMod, Nat.reduceLT, Nat.reduceLeDiff, Nat.reduceEqDiff, Nat.reduceBEq, Nat.reduceBNe, Nat.reduceGT, Int.reduceAdd, Int.reduceSub, Int.reduceMul, Int.reduceNeg, Int.reduceLT, Int.reduceLE, Int.reduceEq, Int.reduceNe, Int.reduceBEq, Int.reduceBNe, Int.reduceToNat, Int.reduceGT, Int.reduceGE, ↓reduceIte, decide_true, decide_false, eq_self, Nat.mul_one, Nat.zero_mul, Nat.one_mul, Int.le_refl, Nat.le_refl, Int.cast_ofNat_Int, hlt]
   refine hQ1 _ _ ?_
   have htk : T.take T.length = T := List.take_length
   obtain ⟨N, hN⟩ : ∃ N : Nat, sumT T = N := ⟨(sumT T).toNat, by unfold sumT; omega⟩
   have hG : greatG T M ([] : List Rd) = gLoop T M ([] : List Rd) (N + 1) (initV T M T.length 0) := by unfold greatG; rw [hN]; rfl
   have hN33 : (N : Int) ≤ 33 := by rw [← hN]; unfold sumT; omega
   simp (decide := true) (maxSteps := 4000000) only [go_sem, Nat.reduceAdd, Nat.reduceSub, Nat.reduceMul, Nat.reduceDiv, Nat.reduceMod, Nat.reduceLT, Nat.reduceLeDiff, Nat.reduceEqDiff, Nat.reduceBEq, Nat.reduceBNe, Nat.reduceGT, Int.reduceAdd, Int.reduceSub, Int.reduceMul, Int.reduceNeg, Int.reduceLT, Int.reduceLE, Int.reduceEq, Int.reduceNe, Int.reduceBEq, Int.reduceBNe, Int.reduceToNat, Int.reduceGT, Int.reduceGE, ↓reduceIte, decide_true, decide_false, eq_self, Nat.mul_one, Nat.zero_mul, Nat.one_mul, Int.le_refl, Nat.le_refl, Int.cast_ofNat_Int, htk, hN]
   refine pwpC_loopU (A := { p : Nat × (Nat → Int) // p.1 ≤ N ∧ gLoop T M ([] : List Rd) (p.1 + 1) p.2 = greatG T M ([] : List Rd) }) [1, 2, 4, 5, 6] (fun p => [(10, .t (.int .i64 (N - p.1.1)))]) (fun p => [(1, .box (c36 p.1.2))]) (fun p => p.1.1) ⟨(N, initV T M T.length 0), Nat.le_refl _, hG.symm⟩ (by decide) (fun _ => by rfl) ?_ fun Q3 hQ3 ⟨⟨m, f⟩, hm, hgl⟩ I3 hI3 => ?_
   ·simp (decide := true) (maxSteps := 4000000) only [go_sem, Nat.reduceAdd, Nat.reduceSub, Nat.reduceMul, Nat.reduceDiv, Nat.reduceMod, Nat.reduceLT, Nat.reduceLeDiff, Nat.reduceEqDiff, Nat.reduceBEq, Nat.reduceBNe, Nat.reduceGT, Int.reduceAdd, Int.reduceSub, Int.reduceMul, Int.reduceNeg, Int.reduceLT, Int.reduceLE, Int.reduceEq, Int.reduceNe, Int.reduceBEq, Int.reduceBNe, Int.reduceToNat, Int.reduceGT, Int.reduceGE, ↓reduceIte, decide_true, decide_false, eq_self, Nat.mul_one, Nat.zero_mul, Nat.one_mul, Int.le_refl, Nat.le_refl, Int.cast_ofNat_Int, Int.sub_self, cells_self, c36_under]
   ·simp only at hm hgl
    simp (decide := true) (maxSteps := 4000000) only [go_sem, Nat.reduceAdd, Nat.reduceSub, Nat.reduceMul, Nat.reduceDiv, Nat.reduceMod, Nat.reduceLT, Nat.reduceLeDiff, Nat.reduceEqDiff, Nat.reduceBEq, Nat.reduceBNe, Nat.reduceGT, Int.reduceAdd, Int.reduceSub, Int.reduceMul, Int.reduceNeg, Int.reduceLT, Int.reduceLE, Int.reduceEq, Int.reduceNe, Int.reduceBEq, Int.reduceBNe, Int.reduceToNat, Int.reduceGT, Int.reduceGE, ↓reduceIte, decide_true, decide_false, eq_self, Nat.mul_one, Nat.zero_mul, Nat.one_mul, Int.le_refl, Nat.le_refl, Int.cast_ofNat_Int, c36_len, c36_all, c36_take, t36_map, c36_drop, List.append_nil]
    refine pwpC_loopU (A := Unit) [1, 2, 4, 5, 6, 10, 11, 44, 45] (fun k => [(46, .t (.int .i64 0))]) (fun k => []) (fun k => 0) () (by decide) (fun _ => by rfl) ?_ fun Q4 hQ4 _ I4 hI4 => ?_
    ·simp (decide := true) (maxSteps := 4000000) only [go_sem, Nat.reduceAdd, Nat.reduceSub, Nat.reduceMul, Nat.reduceDiv, Nat.reduceMod, Nat.reduceLT, Nat.reduceLeDiff, Nat.reduceEqDiff, Nat.reduceBEq, Nat.reduceBNe, Nat.reduceGT, Int.reduceAdd, Int.reduceSub, Int.reduceMul, Int.reduceNeg, Int.reduceLT, Int.reduceLE, Int.reduceEq, Int.reduceNe, Int.reduceBEq, Int.reduceBNe, Int.reduceToNat, Int.reduceGT, Int.reduceGE, ↓reduceIte, decide_true, decide_false, eq_self, Nat.mul_one, Nat.zero_mul, Nat.one_mul, Int.le_refl, Nat.le_refl, Int.cast_ofNat_Int, cells_self, c36_under]
    ·skip
     simp (decide := true) (maxSteps := 4000000) only [go_sem, Nat.reduceAdd, Nat.reduceSub, Nat.reduceMul, Nat.reduceDiv, Nat.reduceMod, Nat.reduceLT, Nat.reduceLeDiff, Nat.reduceEqDiff, Nat.reduceBEq, Nat.reduceBNe, Nat.reduceGT, Int.reduceAdd, Int.reduceSub, Int.reduceMul, Int.reduceNeg, Int.reduceLT, Int.reduceLE, Int.reduceEq, Int.reduceNe, Int.reduceBEq, Int.reduceBNe, Int.reduceToNat, Int.reduceGT, Int.reduceGE, ↓reduceIte, decide_true, decide_false, eq_self, Nat.mul_one, Nat.zero_mul, Nat.one_mul, Int.le_refl, Nat.le_refl, Int.cast_ofNat_Int]
     refine hQ4 _ _ ?_
     have hgl2 : greatG T M [] = if badG T M f then (f, false) else if all36 f f then (f, true) else gLoop T M [] m f := by rw [← hgl]; rfl
     simp (decide := true) (maxSteps := 4000000) only [go_sem, Nat.reduceAdd, Nat.reduceSub, Nat.reduceMul, Nat.reduceDiv, Nat.reduceMod, Nat.reduceLT, Nat.reduceLeDiff, Nat.reduceEqDiff, Nat.reduceBEq, Nat.reduceBNe, Nat.reduceGT, Int.reduceAdd, Int.reduceSub, Int.reduceMul, Int.reduceNeg, Int.reduceLT, Int.reduceLE, Int.reduceEq, Int.reduceNe, Int.reduceBEq, Int.reduceBNe, Int.reduceToNat, Int.reduceGT, Int.reduceGE, ↓reduceIte, decide_true, decide_false, eq_self, Nat.mul_one, Nat.zero_mul, Nat.one_mul, Int.le_refl, Nat.le_refl, Int.cast_ofNat_Int]
     refine pwpC_loopU (A := { i : Nat // i ≤ T.length ∧ ∀ i' k' : Nat, i' < i → (k' : Int) ≤ nthI T (i' : Int) → badAt f M i' k' = false }) [1, 2, 4, 5, 6, 10, 11, 88, 89] (fun i => [(90, .t (.int .i64 i.1))]) (fun k => []) (fun i => T.length - i.1) ⟨0, by omega, fun i' k' h => by omega⟩ (by decide) (fun _ => by rfl) ?_ fun Q5 hQ5 ⟨i, hi, hno⟩ I5 hI5 => ?_
     ·simp (decide := true) (maxSteps := 4000000) only [go_sem, Nat.reduceAdd, Nat.reduceSub, Nat.reduceMul, Nat.reduceDiv, Nat.reduceMod, Nat.reduceLT, Nat.reduceLeDiff, Nat.reduceEqDiff, Nat.reduceBEq, Nat.reduceBNe, Nat.reduceGT, Int.reduceAdd, Int.reduceSub, Int.reduceMul, Int.reduceNeg, Int.reduceLT, Int.reduceLE, Int.reduceEq, Int.reduceNe, Int.reduceBEq, Int.reduceBNe, Int.reduceToNat, Int.reduceGT, Int.reduceGE, ↓reduceIte, decide_true, decide_false, eq_self, Nat.mul_one, Nat.zero_mul, Nat.one_mul, Int.le_refl, Nat.le_refl, Int.cast_ofNat_Int, cells_self, c36_under]
     ·by_cases hlt4 : (i : Int) < T.length
      ·obtain ⟨x, hx⟩ := get_lt hlt4
       have hd := ints_at hx
       rw [Nat.mul_one] at hd
       have hx8 := hT8 x (List.mem_of_getElem? hx)
       have hxn := nthI_at hx
       have hw5 : IntKind.i64.wrap ((i : Int) + 1) = ((i + 1 : Nat) : Int) := by rw [wrap_in (by omega) (by omega)]; omega
       have hw6 : IntKind.i64.wrap (x + 1) = x + 1 := wrap_in (by omega) (by omega)
       have hi4 : (i : Int) < 4 := by omega
       simp (decide := true) (maxSteps := 4000000) only [go_sem, Nat.reduceAdd, Nat.reduceSub, Nat.reduceMul, Nat.reduceDiv, Nat.reduceMod, Nat.reduceLT, Nat.reduceLeDiff, Nat.reduceEqDiff, Nat.reduceBEq, Nat.reduceBNe, Nat.reduceGT, Int.reduceAdd, Int.reduceSub, Int.reduceMul, Int.reduceNeg, Int.reduceLT, Int.reduceLE, Int.reduceEq, Int.reduceNe, Int.reduceBEq, Int.reduceBNe, Int.reduceToNat, Int.reduceGT, Int.reduceGE, ↓reduceIte, decide_true, decide_false, eq_self, Nat.mul_one, Nat.zero_mul, Nat.one_mul, Int.le_refl, Nat.le_refl, Int.cast_ofNat_Int, hlt4, hd, hw6]
       refine pwpC_loopU (A := { k : Nat // (k : Int) ≤ x + 1 ∧ ∀ k' : Nat, k' < k → badAt f M i k' = false }) [1, 2, 4, 5, 6, 10, 11, 88, 89, 90, 16, 17, 96] (fun k => [(97, .t (.int .i64 k.1))]) (fun k => []) (fun k => (x + 1).toNat - k.1) ⟨0, by omega, fun k' h => by omega⟩ (by decide) (fun _ => by rfl) ?_ fun Q6 hQ6 ⟨k, hk6, hno6⟩ I6 hI6 => ?_
       ·simp (decide := true) (maxSteps := 4000000) only [go_sem, Nat.reduceAdd, Nat.reduceSub, Nat.reduceMul, Nat.reduceDiv, Nat.reduceMod, Nat.reduceLT, Nat.reduceLeDiff, Nat.reduceEqDiff, Nat.reduceBEq, Nat.reduceBNe, Nat.reduceGT, Int.reduceAdd, Int.reduceSub, Int.reduceMul, Int.reduceNeg, Int.reduceLT, Int.reduceLE, Int.reduceEq, Int.reduceNe, Int.reduceBEq, Int.reduceBNe, Int.reduceToNat, Int.reduceGT, Int.reduceGE, ↓reduceIte, decide_true, decide_false, eq_self, Nat.mul_one, Nat.zero_mul, Nat.one_mul, Int.le_refl, Nat.le_refl, Int.cast_ofNat_Int, cells_self, c36_under]
       ·by_cases hlt5 : (k : Int) < x + 1
        ·have hk9 : (k : Int) < 9 := by omega
         have ho : i * 9 + k < 36 := by omega
         have ho0 : i * 9 < 36 := by omega
         have e1 := c36_at f ho
         have e2 := c36_at f ho0
         have hwM : IntKind.i64.wrap (0 - M) = -M := by rw [wrap_in (by omega) (by omega)]; omega
         have hw7 : IntKind.i64.wrap ((k : Int) + 1) = ((k + 1 : Nat) : Int) := by rw [wrap_in (by omega) (by omega)]; omega
         have hbd : badAt f M i k = (decide (f (i * 9 + k) < -M) || decide (f (i * 9) < 0)) := rfl
         cases hb : badAt f M i k with
         | true =>
          have hbG : badG T M f = true := badG_t (T := T) (M := M) (f := f) ⟨i, k, by omega, by rw [hxn]; omega, hb⟩
          rw [hbG, if_pos rfl] at hgl2
          rw [hb] at hbd
          by_cases c1 : f (i * 9 + k) < -M
          ·simp (decide := true) (maxSteps := 4000000) only [go_sem, Nat.reduceAdd, Nat.reduceSub, Nat.reduceMul, Nat.reduceDiv, Nat.reduceMod, Nat.reduceLT, Nat.reduceLeDiff, Nat.reduceEqDiff, Nat.reduceBEq, Nat.reduceBNe, Nat.reduceGT, Int.reduceAdd, Int.reduceSub, Int.reduceMul, Int.reduceNeg, Int.reduceLT, Int.reduceLE, Int.reduceEq, Int.reduceNe, Int.reduceBEq, Int.reduceBNe, Int.reduceToNat, Int.reduceGT, Int.reduceGE, ↓reduceIte, decide_true, decide_false, eq_self, Nat.mul_one, Nat.zero_mul, Nat.one_mul, Int.le_refl, Nat.le_refl, Int.cast_ofNat_Int, hlt5, hk9, hi4, e1, e2, hwM, c1, c36_len, c36_all, c36_take, t36_map, c36_drop, List.append_nil]
           refine hQ6 _ _ ?_
           simp (decide := true) (maxSteps := 4000000) only [go_sem, Nat.reduceAdd, Nat.reduceSub, Nat.reduceMul, Nat.reduceDiv, Nat.reduceMod, Nat.reduceLT, Nat.reduceLeDiff, Nat.reduceEqDiff, Nat.reduceBEq, Nat.reduceBNe, Nat.reduceGT, Int.reduceAdd, Int.reduceSub, Int.reduceMul, Int.reduceNeg, Int.reduceLT, Int.reduceLE, Int.reduceEq, Int.reduceNe, Int.reduceBEq, Int.reduceBNe, Int.reduceToNat, Int.reduceGT, Int.reduceGE, ↓reduceIte, decide_true, decide_false, eq_self, Nat.mul_one, Nat.zero_mul, Nat.one_mul, Int.le_refl, Nat.le_refl, Int.cast_ofNat_Int]
           refine hQ5 _ _ ?_
           simp (decide := true) (maxSteps := 4000000) only [go_sem, Nat.reduceAdd, Nat.reduceSub, Nat.reduceMul, Nat.reduceDiv, Nat.reduceMod, Nat.reduceLT, Nat.reduceLeDiff, Nat.reduceEqDiff, Nat.reduceBEq, Nat.reduceBNe, Nat.reduceGT, Int.reduceAdd, Int.reduceSub, Int.reduceMul, Int.reduceNeg, Int.reduceLT, Int.reduceLE, Int.reduceEq, Int.reduceNe, Int.reduceBEq, Int.reduceBNe, Int.reduceToNat, Int.reduceGT, Int.reduceGE, ↓reduceIte, decide_true, decide_false, eq_self, Nat.mul_one, Nat.zero_mul, Nat.one_mul, Int.le_refl, Nat.le_refl, Int.cast_ofNat_Int]
           refine hQ3 _ _ ?_
           simp (decide := true) (maxSteps := 4000000) only [go_sem, Nat.reduceAdd, Nat.reduceSub, Nat.reduceMul, Nat.reduceDiv, Nat.reduceMod, Nat.reduceLT, Nat.reduceLeDiff, Nat.reduceEqDiff, Nat.reduceBEq, Nat.reduceBNe, Nat.reduceGT, Int.reduceAdd, Int.reduceSub, Int.reduceMul, Int.reduceNeg, Int.reduceLT, Int.reduceLE, Int.reduceEq, Int.reduceNe, Int.reduceBEq, Int.reduceBNe, Int.reduceToNat, Int.reduceGT, Int.reduceGE, ↓reduceIte, decide_true, decide_false, eq_self, Nat.mul_one, Nat.zero_mul, Nat.one_mul, Int.le_refl, Nat.le_refl, Int.cast_ofNat_Int, c36_len, c36_all, c36_take, t36_map, c36_drop, List.append_nil, hgl2]
           first | done | trace_state
          ·have c2 : f (i * 9) < 0 := by simpa [c1] using hbd
           simp (decide := true) (maxSteps := 4000000) only [go_sem, Nat.reduceAdd, Nat.reduceSub, Nat.reduceMul, Nat.reduceDiv, Nat.reduceMod, Nat.reduceLT, Nat.reduceLeDiff, Nat.reduceEqDiff, Nat.reduceBEq, Nat.reduceBNe, Nat.reduceGT, Int.reduceAdd, Int.reduceSub, Int.reduceMul, Int.reduceNeg, Int.reduceLT, Int.reduceLE, Int.reduceEq, Int.reduceNe, Int.reduceBEq, Int.reduceBNe, Int.reduceToNat, Int.reduceGT, Int.reduceGE, ↓reduceIte, decide_true, decide_false, eq_self, Nat.mul_one, Nat.zero_mul, Nat.one_mul, Int.le_refl, Nat.le_refl, Int.cast_ofNat_Int, hlt5, hk9, hi4, e1, e2, hwM, c1, c2, c36_len, c36_all, c36_take, t36_map, c36_drop, List.append_nil]
           refine hQ6 _ _ ?_
           simp (decide := true) (maxSteps := 4000000) only [go_sem, Nat.reduceAdd, Nat.reduceSub, Nat.reduceMul, Nat.reduceDiv, Nat.reduceMod, Nat.reduceLT, Nat.reduceLeDiff, Nat.reduceEqDiff, Nat.reduceBEq, Nat.reduceBNe, Nat.reduceGT, Int.reduceAdd, Int.reduceSub, Int.reduceMul, Int.reduceNeg, Int.reduceLT, Int.reduceLE, Int.reduceEq, Int.reduceNe, Int.reduceBEq, Int.reduceBNe, Int.reduceToNat, Int.reduceGT, Int.reduceGE, ↓reduceIte, decide_true, decide_false, eq_self, Nat.mul_one, Nat.zero_mul, Nat.one_mul, Int.le_refl, Nat.le_refl, Int.cast_ofNat_Int]
           refine hQ5 _ _ ?_
           simp (decide := true) (maxSteps := 4000000) only [go_sem, Nat.reduceAdd, Nat.reduceSub, Nat.reduceMul, Nat.reduceDiv, Nat.reduceMod, Nat.reduceLT, Nat.reduceLeDiff, Nat.reduceEqDiff, Nat.reduceBEq, Nat.reduceBNe, Nat.reduceGT, Int.reduceAdd, Int.reduceSub, Int.reduceMul, Int.reduceNeg, Int.reduceLT, Int.reduceLE, Int.reduceEq, Int.reduceNe, Int.reduceBEq, Int.reduceBNe, Int.reduceToNat, Int.reduceGT, Int.reduceGE, ↓reduceIte, decide_true, decide_false, eq_self, Nat.mul_one, Nat.zero_mul, Nat.one_mul, Int.le_refl, Nat.le_refl, Int.cast_ofNat_Int]
           refine hQ3 _ _ ?_
           simp (decide := true) (maxSteps := 4000000) only [go_sem, Nat.reduceAdd, Nat.reduceSub, Nat.reduceMul, Nat.reduceDiv, Nat.reduceMod, Nat.reduceLT, Nat.reduceLeDiff, Nat.reduceEqDiff, Nat.reduceBEq, Nat.reduceBNe, Nat.reduceGT, Int.reduceAdd, Int.reduceSub, Int.reduceMul, Int.reduceNeg, Int.reduceLT, Int.reduceLE, Int.reduceEq, Int.reduceNe, Int.reduceBEq, Int.reduceBNe, Int.reduceToNat, Int.reduceGT, Int.reduceGE, ↓reduceIte, decide_true, decide_false, eq_self, Nat.mul_one, Nat.zero_mul, Nat.one_mul, Int.le_refl, Nat.le_refl, Int.cast_ofNat_Int, c36_len, c36_all, c36_take, t36_map, c36_drop, List.append_nil, hgl2]
           first | done | trace_state
         | false =>
          rw [hb] at hbd
          have c1 : ¬ f (i * 9 + k) < -M := fun h => by simp [h] at hbd
          have c2 : ¬ f (i * 9) < 0 := fun h => by simp [h] at hbd
          simp (decide := true) (maxSteps := 4000000) only [go_sem, Nat.reduceAdd, Nat.reduceSub, Nat.reduceMul, Nat.reduceDiv, Nat.reduceMod, Nat.reduceLT, Nat.reduceLeDiff, Nat.reduceEqDiff, Nat.reduceBEq, Nat.reduceBNe, Nat.reduceGT, Int.reduceAdd, Int.reduceSub, Int.reduceMul, Int.reduceNeg, Int.reduceLT, Int.reduceLE, Int.reduceEq, Int.reduceNe, Int.reduceBEq, Int.reduceBNe, Int.reduceToNat, Int.reduceGT, Int.reduceGE, ↓reduceIte, decide_true, decide_false, eq_self, Nat.mul_one, Nat.zero_mul, Nat.one_mul, Int.le_refl, Nat.le_refl, Int.cast_ofNat_Int, hlt5, hk9, hi4, e1, e2, hwM, c1, c2, hw7]
          refine hI6 _ ⟨k + 1, by omega, fun k' hk' => ?_⟩ (by simp only; omega) ?_
          ·by_cases e : k' = k
           ·subst e; exact hb
           ·exact hno6 k' (by omega)
          simp (decide := true) (maxSteps := 4000000) only [go_sem, Nat.reduceAdd, Nat.reduceSub, Nat.reduceMul, Nat.reduceDiv, Nat.reduceMod, Nat.reduceLT, Nat.reduceLeDiff, Nat.reduceEqDiff, Nat.reduceBEq, Nat.reduceBNe, Nat.reduceGT, Int.reduceAdd, Int.reduceSub, Int.reduceMul, Int.reduceNeg, Int.reduceLT, Int.reduceLE, Int.reduceEq, Int.reduceNe, Int.reduceBEq, Int.reduceBNe, Int.reduceToNat, Int.reduceGT, Int.reduceGE, ↓reduceIte, decide_true, decide_false, eq_self, Nat.mul_one, Nat.zero_mul, Nat.one_mul, Int.le_refl, Nat.le_refl, Int.cast_ofNat_Int, hw7, cells_self, c36_under]
          first | done | trace_state
        ·simp (decide := true) (maxSteps := 4000000) only [go_sem, Nat.reduceAdd, Nat.reduceSub, Nat.reduceMul, Nat.reduceDiv, Nat.reduceMod, Nat.reduceLT, Nat.reduceLeDiff, Nat.reduceEqDiff, Nat.reduceBEq, Nat.reduceBNe, Nat.reduceGT, Int.reduceAdd, Int.reduceSub, Int.reduceMul, Int.reduceNeg, Int.reduceLT, Int.reduceLE, Int.reduceEq, Int.reduceNe, Int.reduceBEq, Int.reduceBNe, Int.reduceToNat, Int.reduceGT, Int.reduceGE, ↓reduceIte, decide_true, decide_false, eq_self, Nat.mul_one, Nat.zero_mul, Nat.one_mul, Int.le_refl, Nat.le_refl, Int.cast_ofNat_Int, hlt5]
         refine hQ6 _ _ ?_
         simp (decide := true) (maxSteps := 4000000) only [go_sem, Nat.reduceAdd, Nat.reduceSub, Nat.reduceMul, Nat.reduceDiv, Nat.reduceMod, Nat.reduceLT, Nat.reduceLeDiff, Nat.reduceEqDiff, Nat.reduceBEq, Nat.reduceBNe, Nat.reduceGT, Int.reduceAdd, Int.reduceSub, Int.reduceMul, Int.reduceNeg, Int.reduceLT, Int.reduceLE, Int.reduceEq, Int.reduceNe, Int.reduceBEq, Int.reduceBNe, Int.reduceToNat, Int.reduceGT, Int.reduceGE, ↓reduceIte, decide_true, decide_false, eq_self, Nat.mul_one, Nat.zero_mul, Nat.one_mul, Int.le_refl, Nat.le_refl, Int.cast_ofNat_Int]
         refine hI5 _ ⟨i + 1, by omega, fun i' k' hi' hk' => ?_⟩ (by simp only; omega) ?_
         ·by_cases e : i' = i
          ·subst e; rw [hxn] at hk'; exact hno6 k' (by omega)
          ·exact hno i' k' (by omega) hk'
         simp (decide := true) (maxSteps := 4000000) only [go_sem, Nat.reduceAdd, Nat.reduceSub, Nat.reduceMul, Nat.reduceDiv, Nat.reduceMod, Nat.reduceLT, Nat.reduceLeDiff, Nat.reduceEqDiff, Nat.reduceBEq, Nat.reduceBNe, Nat.reduceGT, Int.reduceAdd, Int.reduceSub, Int.reduceMul, Int.reduceNeg, Int.reduceLT, Int.reduceLE, Int.reduceEq, Int.reduceNe, Int.reduceBEq, Int.reduceBNe, Int.reduceToNat, Int.reduceGT, Int.reduceGE, ↓reduceIte, decide_true, decide_false, eq_self, Nat.mul_one, Nat.zero_mul, Nat.one_mul, Int.le_refl, Nat.le_refl, Int.cast_ofNat_Int, hw5, cells_self, c36_under]
         first | done | trace_state
      ·have hie : i = T.length := by omega
       subst hie
       have hbG : badG T M f = false := by
        refine badG_f ?_
        rintro ⟨i, k, h1, h2, h3⟩
        rw [hno i k h1 h2] at h3; cases h3
       rw [hbG] at hgl2
       simp only [Bool.false_eq_true, if_false] at hgl2
       simp (decide := true) (maxSteps := 4000000) only [go_sem, Nat.reduceAdd, Nat.reduceSub, Nat.reduceMul, Nat.reduceDiv, Nat.reduceMod, Nat.reduceLT, Nat.reduceLeDiff, Nat.reduceEqDiff, Nat.reduceBEq, Nat.reduceBNe, Nat.reduceGT, Int.reduceAdd, Int.reduceSub, Int.reduceMul, Int.reduceNeg, Int.reduceLT, Int.reduceLE, Int.reduceEq, Int.reduceNe, Int.reduceBEq, Int.reduceBNe, Int.reduceToNat, Int.reduceGT, Int.reduceGE, ↓reduceIte, decide_true, decide_false, eq_self, Nat.mul_one, Nat.zero_mul, Nat.one_mul, Int.le_refl, Nat.le_refl, Int.cast_ofNat_Int, hlt4]
       refine hQ5 _ _ ?_
       cases h36 : all36 f f with
       | true =>
        rw [h36, if_pos rfl] at hgl2
        simp (decide := true) (maxSteps := 4000000) only [go_sem, Nat.reduceAdd, Nat.reduceSub, Nat.reduceMul, Nat.reduceDiv, Nat.reduceMod, Nat.reduceLT, Nat.reduceLeDiff, Nat.reduceEqDiff, Nat.reduceBEq, Nat.reduceBNe, Nat.reduceGT, Int.reduceAdd, Int.reduceSub, Int.reduceMul, Int.reduceNeg, Int.reduceLT, Int.reduceLE, Int.reduceEq, Int.reduceNe, Int.reduceBEq, Int.reduceBNe, Int.reduceToNat, Int.reduceGT, Int.reduceGE, ↓reduceIte, decide_true, decide_false, eq_self, Nat.mul_one, Nat.zero_mul, Nat.one_mul, Int.le_refl, Nat.le_refl, Int.cast_ofNat_Int, c36_len, c36_all, c36_take, t36_map, c36_drop, List.append_nil, eqT_36, h36]
        refine hQ3 _ _ ?_
        simp (decide := true) (maxSteps := 4000000) only [go_sem, Nat.reduceAdd, Nat.reduceSub, Nat.reduceMul, Nat.reduceDiv, Nat.reduceMod, Nat.reduceLT, Nat.reduceLeDiff, Nat.reduceEqDiff, Nat.reduceBEq, Nat.reduceBNe, Nat.reduceGT, Int.reduceAdd, Int.reduceSub, Int.reduceMul, Int.reduceNeg, Int.reduceLT, Int.reduceLE, Int.reduceEq, Int.reduceNe, Int.reduceBEq, Int.reduceBNe, Int.reduceToNat, Int.reduceGT, Int.reduceGE, ↓reduceIte, decide_true, decide_false, eq_self, Nat.mul_one, Nat.zero_mul, Nat.one_mul, Int.le_refl, Nat.le_refl, Int.cast_ofNat_Int, c36_len, c36_all, c36_take, t36_map, c36_drop, List.append_nil, hgl2]
        first | done | trace_state
       | false =>
        rw [h36] at hgl2
        simp only [Bool.false_eq_true, if_false] at hgl2
        have hw8 : IntKind.i64.wrap ((N : Int) - m + 1) = (N : Int) - m + 1 := wrap_in (by omega) (by omega)
        cases m with
        | zero =>
         have hw8' : IntKind.i64.wrap ((N : Int) - 0 + 1) = N + 1 := by rw [wrap_in (by omega) (by omega)]; omega
         have hgt : (N : Int) + 1 > N := by omega
         have hgl3 : greatG T M ([] : List Rd) = (f, false) := hgl2
         simp (decide := true) (maxSteps := 4000000) only [go_sem, Nat.reduceAdd, Nat.reduceSub, Nat.reduceMul, Nat.reduceDiv, Nat.reduceMod, Nat.reduceLT, Nat.reduceLeDiff, Nat.reduceEqDiff, Nat.reduceBEq, Nat.reduceBNe, Nat.reduceGT, Int.reduceAdd, Int.reduceSub, Int.reduceMul, Int.reduceNeg, Int.reduceLT, Int.reduceLE, Int.reduceEq, Int.reduceNe, Int.reduceBEq, Int.reduceBNe, Int.reduceToNat, Int.reduceGT, Int.reduceGE, ↓reduceIte, decide_true, decide_false, eq_self, Nat.mul_one, Nat.zero_mul, Nat.one_mul, Int.le_refl, Nat.le_refl, Int.cast_ofNat_Int, c36_len, c36_all, c36_take, t36_map, c36_drop, List.append_nil, eqT_36, h36, hw8', hgt, hgl3]
         refine hQ3 _ _ ?_
         simp (decide := true) (maxSteps := 4000000) only [go_sem, Nat.reduceAdd, Nat.reduceSub, Nat.reduceMul, Nat.reduceDiv, Nat.reduceMod, Nat.reduceLT, Nat.reduceLeDiff, Nat.reduceEqDiff, Nat.reduceBEq, Nat.reduceBNe, Nat.reduceGT, Int.reduceAdd, Int.reduceSub, Int.reduceMul, Int.reduceNeg, Int.reduceLT, Int.reduceLE, Int.reduceEq, Int.reduceNe, Int.reduceBEq, Int.reduceBNe, Int.reduceToNat, Int.reduceGT, Int.reduceGE, ↓reduceIte, decide_true, decide_false, eq_self, Nat.mul_one, Nat.zero_mul, Nat.one_mul, Int.le_refl, Nat.le_refl, Int.cast_ofNat_Int, c36_len, c36_all, c36_take, t36_map, c36_drop, List.append_nil, hgl3]
         first | done | trace_state
        | succ m =>
         have hgt : ¬ (N : Int) - (m + 1 : Nat) + 1 > N := by omega
         simp (decide := true) (maxSteps := 4000000) only [go_sem, Nat.reduceAdd, Nat.reduceSub, Nat.reduceMul, Nat.reduceDiv, Nat.reduceMod, Nat.reduceLT, Nat.reduceLeDiff, Nat.reduceEqDiff, Nat.reduceBEq, Nat.reduceBNe, Nat.reduceGT, Int.reduceAdd, Int.reduceSub, Int.reduceMul, Int.reduceNeg, Int.reduceLT, Int.reduceLE, Int.reduceEq, Int.reduceNe, Int.reduceBEq, Int.reduceBNe, Int.reduceToNat, Int.reduceGT, Int.reduceGE, ↓reduceIte, decide_true, decide_false, eq_self, Nat.mul_one, Nat.zero_mul, Nat.one_mul, Int.le_refl, Nat.le_refl, Int.cast_ofNat_Int, c36_len, c36_all, c36_take, t36_map, c36_drop, List.append_nil, eqT_36, h36, hw8, hgt]
         refine hI3 _ ⟨(m, f), by simp only; omega, hgl2.symm⟩ (by simp only; omega) ?_
         have hw9 : (N : Int) - (m + 1 : Nat) + 1 = N - m := by omega
         simp (decide := true) (maxSteps := 4000000) only [go_sem, Nat.reduceAdd, Nat.reduceSub, Nat.reduceMul, Nat.reduceDiv, Nat.reduceMod, Nat.reduceLT, Nat.reduceLeDiff, Nat.reduceEqDiff, Nat.reduceBEq, Nat.reduceBNe, Nat.reduceGT, Int.reduceAdd, Int.reduceSub, Int.reduceMul, Int.reduceNeg, Int.reduceLT, Int.reduceLE, Int.reduceEq, Int.reduceNe, Int.reduceBEq, Int.reduceBNe, Int.reduceToNat, Int.reduceGT, Int.reduceGE, ↓reduceIte, decide_true, decide_false, eq_self, Nat.mul_one, Nat.zero_mul, Nat.one_mul, Int.le_refl, Nat.le_refl, Int.cast_ofNat_Int, hw9, cells_self, c36_under]
         first | done | trace_state
theorem fGreat_c {T : List Int} {M : Int} (fT : Bool) (hs : setOk T M) {L : List Rd} {s : TV} (hL : IsRow Rd.cs s L) (hLl : L.length ≤ 24) (hr : rdOk T L) :
  PCalls Tryd.prog 129 [.agg [.sl (ints T) T.length fT, .int .i64 M], s] (.tup [.agg (t36 (greatG T M L).1), .bool (greatG T M L).2]) := by
 rcases hL with ⟨rfl, rfl⟩ | ⟨fL, rfl⟩
 ·exact fGreat0_c fT hs
 ·exact fGreat1_c fT hs fL hLl hr
end Go.Proofs.YtlonlnfenbadbaaDoor

/- Part TFf. -/
namespace Go.Of
open Go Go.RowKit Go.Pm Go.Oc Go.Oh Go.Oc.Ix
open Classical in
noncomputable def inP (caps : List TV) (p : Int → Bool) : List TV → Option TV
 | .int .i64 a :: c => if c = caps then some (.bool (p a)) else none
 | _ => none
theorem inP_ok {P : Program} {f : FuncId} {caps : List TV} {p : Int → Bool} (h : ∀ x, PCalls P f (.int .i64 x :: caps) (.bool (p x))) : ∀ al r, inP caps p al = some r → PCalls P f al r := by
 intro al r e
 unfold inP at e
 split at e
 ·split at e
  ·rename_i hc; cases hc; cases e; exact h _
  ·cases e
 ·cases e
attribute [go_sem] inP
open Classical in
noncomputable def rwP (F : TV) (p : List Int → Bool) : List TV → Option TV
 | [s, f] => match rowL Ix.unI s with
  | some l => if f = F ∧ l.length ≤ 17592186044415 then some (.bool (p l)) else none
  | none => none
 | _ => none
theorem rwP_ok {P : Program} {f : FuncId} {F : TV} {p : List Int → Bool} (h : ∀ (r : List Int) (c : TV), IsRow Ix.ic c r → r.length ≤ 17592186044415 → PCalls P f [c, F] (.bool (p r))) : ∀ al r, rwP F p al = some r → PCalls P f al r := by
 intro al r e
 unfold rwP at e
 split at e
 ·split at e
  ·rename_i l hl
   have hl := rowL_some (un := Ix.unI) rfl (@Ix.unI_some) hl
   split at e
   ·rename_i hc; obtain ⟨rfl, hc⟩ := hc; cases e; exact h _ _ hl hc
   ·cases e
  ·cases e
 ·cases e
attribute [go_sem] rwP
def RowsI (s : TV) (E : List (List Int)) : Prop := (s = .nilSl ∧ E = []) ∨ ∃ (cs : List TV) (f : Bool), s = .sl cs E.length f ∧ cs.length = E.length ∧ ∀ (i : Nat) (c : TV) (r : List Int), cs[i]? = some c → E[i]? = some r → IsRow Ix.ic c r ∧ r.length ≤ 17592186044415
def eAt (E : List (List Int)) (a i : Int) : Int := nthI (E.getD a.toNat []) i
def holdsB (E : List (List Int)) (x : Rd) : Bool := inB (IntKind.i64.wrap (IntKind.i64.wrap (eAt E x.a x.i - eAt E x.b x.j) - x.v)) (IntKind.i64.wrap (0 - x.w)) x.w
def rowOk (M t : Int) (r : List Int) : Bool := decide ((r.length : Int) = t + 1) && (decide (nthI r 0 = 0) && r.all fun n => inB n (-M) M)
def rowsTo (T : List Int) (M : Int) (E : List (List Int)) (k : Nat) : Bool := (List.range k).all fun i => rowOk M (nthI T i) (E.getD i [])
def truthP (T : List Int) (M : Int) (L : List Rd) (E : List (List Int)) : Bool × Int := if askedE T M L = 0 then (if E.length = T.length then (if rowsTo T M E E.length then (L.all (holdsB E), 0) else (false, 0)) else (false, 0)) else (false, askedE T M L)
def objS (T : List Int) (f : Bool) (M : Int) (k : Nat) : PO := if k = 0 then .box [.t (.sl (ints T) T.length f), .t (.int .i64 M)] else .ro [.sl (ints T) T.length f, .int .i64 M]
theorem objS_z (T : List Int) (f : Bool) (M : Int) {k : Nat} (h : k = 0) : objS T f M k = .box [.t (.sl (ints T) T.length f), .t (.int .i64 M)] := by unfold objS; rw [if_pos h]
theorem objS_s (T : List Int) (f : Bool) (M : Int) {k : Nat} (h : 0 < k) : objS T f M k = .ro [.sl (ints T) T.length f, .int .i64 M] := by unfold objS; rw [if_neg (by omega)]
theorem objS_cases (T : List Int) (f : Bool) (M : Int) (k : Nat) : objS T f M k = .box [.t (.sl (ints T) T.length f), .t (.int .i64 M)] ∨ objS T f M k = .ro [.sl (ints T) T.length f, .int .i64 M] := by
 rcases Nat.eq_zero_or_pos k with h | h
 ·exact .inl (objS_z T f M h)
 ·exact .inr (objS_s T f M h)
theorem RowsI_pc {s : TV} {E : List (List Int)} (h : RowsI s E) : pcells (.t s) = some [.t s] := by
 rcases h with ⟨rfl, _⟩ | ⟨cs, f, rfl, _⟩ <;> rfl
theorem rowsTo_succ (T : List Int) (M : Int) (E : List (List Int)) (k : Nat) : rowsTo T M E (k + 1) = (rowsTo T M E k && rowOk M (nthI T k) (E.getD k [])) := by
 unfold rowsTo
 rw [List.range_succ, List.all_append]
 simp
theorem rowsTo_mono {T : List Int} {M : Int} {E : List (List Int)} {k n : Nat} (h : k ≤ n) (hf : rowsTo T M E k = false) : rowsTo T M E n = false := by
 unfold rowsTo at *
 rw [List.all_eq_false] at *
 obtain ⟨x, h1, h2⟩ := hf
 exact ⟨x, List.mem_range.2 (by have := List.mem_range.1 h1; omega), h2⟩
theorem rowsTo_at {T : List Int} {M : Int} {E : List (List Int)} {n k : Nat} {r : List Int} (h : rowsTo T M E n = true) (hk : k < n) (hr : E[k]? = some r) : rowOk M (nthI T k) r = true := by
 unfold rowsTo at h
 rw [List.all_eq_true] at h
 have := h k (List.mem_range.2 hk)
 rw [List.getD_eq_getElem?_getD, hr] at this
 exact this
theorem asked_iff {T : List Int} {M : Int} {L : List Rd} (h : askedE T M L = 0) : setOk T M ∧ L.length ≤ 24 ∧ rdOk T L := by
 unfold askedE at h
 by_cases h1 : setB T M = true
 ·rw [if_pos h1] at h
  by_cases h2 : (decide ((L.length : Int) > 24) || L.any (badR T)) = true
  ·rw [if_pos h2] at h; omega
  ·rw [Bool.not_eq_true, Bool.or_eq_false_iff, decide_eq_false_iff_not, List.any_eq_false] at h2
   unfold setB at h1
   simp only [Bool.and_eq_true, inB_iff, List.all_eq_true] at h1
   refine ⟨⟨by omega, h1.2.1, h1.2.2⟩, by omega, fun x hx => ?_⟩
   have := h2.2 x hx
   unfold badR at this
   simp only [Bool.or_eq_true, Bool.not_eq_true', not_or, Bool.not_eq_false, inB_iff] at this
   obtain ⟨a, b, c, d, e, f⟩ := this
   exact ⟨by omega, c, by omega, d, e, f⟩
 ·rw [if_neg h1] at h; omega
theorem rowOk_iff {M t : Int} {r : List Int} (h : rowOk M t r = true) : (r.length : Int) = t + 1 ∧ nthI r 0 = 0 ∧ ∀ x ∈ r, -M ≤ x ∧ x ≤ M := by
 unfold rowOk at h
 simp only [Bool.and_eq_true, decide_eq_true_eq, List.all_eq_true, inB_iff] at h
 exact h
end Go.Of
namespace Go.Proofs.YtlonlnfenbadbaaDoor
open Go.RowKit Go.Pm Go.Oc Go.Oc.Ix Ix Go.Of Go.Ow
set_option maxRecDepth 100000
set_option linter.unusedVariables false
set_option maxHeartbeats 4000000

theorem fIndexI_c {fid : FuncId} {caps : List TV} {p : Int → Bool} {l : List Int} {s : TV} (hl : IsRow ic s l) (hll : l.length ≤ 17592186044415) (hc : ∀ x, PCalls Tryd.prog fid (.int .i64 x :: caps) (.bool (p x))) : PCalls Tryd.prog 148 [s, .fn fid [] caps] (.int .i64 (fIx2 p l)) := by
 refine pcalls_by Tryd.mixes (Spec.one_ok (inP_ok hc) noSpec_ok) (fn := Tryd.f148) Tryd.func148 rfl (by kernel_rfl) (by show 2 ≤ _; decide) ?_
 rcases hl with ⟨rfl, rfl⟩ | ⟨f, rfl⟩
 ·simp (decide := true) (maxSteps := 4000000) only [go_sem, Nat.reduceAdd, Nat.reduceSub, Nat.reduceMul, Nat.reduceDiv, Nat.reduceMod, Nat.reduceLT, Nat.reduceLeDiff, Nat.reduceEqDiff, Nat.reduceBEq, Nat.reduceBNe, Nat.reduceGT, Int.reduceAdd, Int.reduceSub, Int.reduceMul, Int.reduceNeg, Int.reduceLT, Int.reduceLE, Int.reduceEq, Int.reduceNe, Int.reduceBEq, Int.reduceBNe, Int.reduceToNat, Int.reduceGT, Int.reduceGE, ↓reduceIte, decide_true, decide_false, eq_self, Nat.mul_one, Nat.zero_mul, Nat.one_mul, Int.le_refl, Nat.le_refl, Int.cast_ofNat_Int, Tryd.f148]
  refine pwpC_loopU (A := Unit) [0, 1, 4, 7] (fun _ => [(8, .t (.int .i64 0))]) (fun _ => []) (fun _ => 0) () (by decide) (fun _ => by rfl) ?_ fun Q1 hQ1 _ I1 hI1 => ?_
  ·simp (decide := true) (maxSteps := 4000000) only [go_sem, Nat.reduceAdd, Nat.reduceSub, Nat.reduceMul, Nat.reduceDiv, Nat.reduceMod, Nat.reduceLT, Nat.reduceLeDiff, Nat.reduceEqDiff, Nat.reduceBEq, Nat.reduceBNe, Nat.reduceGT, Int.reduceAdd, Int.reduceSub, Int.reduceMul, Int.reduceNeg, Int.reduceLT, Int.reduceLE, Int.reduceEq, Int.reduceNe, Int.reduceBEq, Int.reduceBNe, Int.reduceToNat, Int.reduceGT, Int.reduceGE, ↓reduceIte, decide_true, decide_false, eq_self, Nat.mul_one, Nat.zero_mul, Nat.one_mul, Int.le_refl, Nat.le_refl, Int.cast_ofNat_Int]
  ·simp (decide := true) (maxSteps := 4000000) only [go_sem, Nat.reduceAdd, Nat.reduceSub, Nat.reduceMul, Nat.reduceDiv, Nat.reduceMod, Nat.reduceLT, Nat.reduceLeDiff, Nat.reduceEqDiff, Nat.reduceBEq, Nat.reduceBNe, Nat.reduceGT, Int.reduceAdd, Int.reduceSub, Int.reduceMul, Int.reduceNeg, Int.reduceLT, Int.reduceLE, Int.reduceEq, Int.reduceNe, Int.reduceBEq, Int.reduceBNe, Int.reduceToNat, Int.reduceGT, Int.reduceGE, ↓reduceIte, decide_true, decide_false, eq_self, Nat.mul_one, Nat.zero_mul, Nat.one_mul, Int.le_refl, Nat.le_refl, Int.cast_ofNat_Int]
   refine hQ1 _ _ ?_
   simp (decide := true) (maxSteps := 4000000) only [go_sem, Nat.reduceAdd, Nat.reduceSub, Nat.reduceMul, Nat.reduceDiv, Nat.reduceMod, Nat.reduceLT, Nat.reduceLeDiff, Nat.reduceEqDiff, Nat.reduceBEq, Nat.reduceBNe, Nat.reduceGT, Int.reduceAdd, Int.reduceSub, Int.reduceMul, Int.reduceNeg, Int.reduceLT, Int.reduceLE, Int.reduceEq, Int.reduceNe, Int.reduceBEq, Int.reduceBNe, Int.reduceToNat, Int.reduceGT, Int.reduceGE, ↓reduceIte, decide_true, decide_false, eq_self, Nat.mul_one, Nat.zero_mul, Nat.one_mul, Int.le_refl, Nat.le_refl, Int.cast_ofNat_Int]
   first | done | rfl
 ·rw [ic_ints]
  simp (decide := true) (maxSteps := 4000000) only [go_sem, Nat.reduceAdd, Nat.reduceSub, Nat.reduceMul, Nat.reduceDiv, Nat.reduceMod, Nat.reduceLT, Nat.reduceLeDiff, Nat.reduceEqDiff, Nat.reduceBEq, Nat.reduceBNe, Nat.reduceGT, Int.reduceAdd, Int.reduceSub, Int.reduceMul, Int.reduceNeg, Int.reduceLT, Int.reduceLE, Int.reduceEq, Int.reduceNe, Int.reduceBEq, Int.reduceBNe, Int.reduceToNat, Int.reduceGT, Int.reduceGE, ↓reduceIte, decide_true, decide_false, eq_self, Nat.mul_one, Nat.zero_mul, Nat.one_mul, Int.le_refl, Nat.le_refl, Int.cast_ofNat_Int, Tryd.f148]
  refine pwpC_loopU (A := { k : Nat // k ≤ l.length ∧ ∀ (i : Nat) (y : Int), i < k → l[i]? = some y → p y = false }) [0, 1, 4, 7] (fun k => [(8, .t (.int .i64 k.1))]) (fun _ => []) (fun k => l.length - k.1) ⟨0, by omega, fun i y h => by omega⟩ (by decide) (fun _ => by rfl) ?_ fun Q1 hQ1 ⟨k, hk, hno⟩ I1 hI1 => ?_
  ·simp (decide := true) (maxSteps := 4000000) only [go_sem, Nat.reduceAdd, Nat.reduceSub, Nat.reduceMul, Nat.reduceDiv, Nat.reduceMod, Nat.reduceLT, Nat.reduceLeDiff, Nat.reduceEqDiff, Nat.reduceBEq, Nat.reduceBNe, Nat.reduceGT, Int.reduceAdd, Int.reduceSub, Int.reduceMul, Int.reduceNeg, Int.reduceLT, Int.reduceLE, Int.reduceEq, Int.reduceNe, Int.reduceBEq, Int.reduceBNe, Int.reduceToNat, Int.reduceGT, Int.reduceGE, ↓reduceIte, decide_true, decide_false, eq_self, Nat.mul_one, Nat.zero_mul, Nat.one_mul, Int.le_refl, Nat.le_refl, Int.cast_ofNat_Int]
  ·by_cases hlt : (k : Int) < l.length
   ·obtain ⟨x, hx⟩ := get_lt hlt
    have hd := ints_at hx
    rw [Nat.mul_one] at hd
    have hc1 : IntKind.i64.wrap (k + 1) = ((k + 1 : Nat) : Int) := by rw [wrap_in (by omega) (by omega)]; omega
    cases hb : p x with
    | true =>
     have e := fIx2_hit hno hx hb
     simp (decide := true) (maxSteps := 4000000) only [go_sem, Nat.reduceAdd, Nat.reduceSub, Nat.reduceMul, Nat.reduceDiv, Nat.reduceMod, Nat.reduceLT, Nat.reduceLeDiff, Nat.reduceEqDiff, Nat.reduceBEq, Nat.reduceBNe, Nat.reduceGT, Int.reduceAdd, Int.reduceSub, Int.reduceMul, Int.reduceNeg, Int.reduceLT, Int.reduceLE, Int.reduceEq, Int.reduceNe, Int.reduceBEq, Int.reduceBNe, Int.reduceToNat, Int.reduceGT, Int.reduceGE, ↓reduceIte, decide_true, decide_false, eq_self, Nat.mul_one, Nat.zero_mul, Nat.one_mul, Int.le_refl, Nat.le_refl, Int.cast_ofNat_Int, hlt, hd, hb]
     refine hQ1 _ _ ?_
     simp (decide := true) (maxSteps := 4000000) only [go_sem, Nat.reduceAdd, Nat.reduceSub, Nat.reduceMul, Nat.reduceDiv, Nat.reduceMod, Nat.reduceLT, Nat.reduceLeDiff, Nat.reduceEqDiff, Nat.reduceBEq, Nat.reduceBNe, Nat.reduceGT, Int.reduceAdd, Int.reduceSub, Int.reduceMul, Int.reduceNeg, Int.reduceLT, Int.reduceLE, Int.reduceEq, Int.reduceNe, Int.reduceBEq, Int.reduceBNe, Int.reduceToNat, Int.reduceGT, Int.reduceGE, ↓reduceIte, decide_true, decide_false, eq_self, Nat.mul_one, Nat.zero_mul, Nat.one_mul, Int.le_refl, Nat.le_refl, Int.cast_ofNat_Int, e]
    | false =>
     have hno' : ∀ (i : Nat) (y : Int), i < k + 1 → l[i]? = some y → p y = false := fun i y hi hy => by
      by_cases e : i = k
      ·subst e; rw [hx] at hy; cases hy; exact hb
      ·exact hno i y (by omega) hy
     simp (decide := true) (maxSteps := 4000000) only [go_sem, Nat.reduceAdd, Nat.reduceSub, Nat.reduceMul, Nat.reduceDiv, Nat.reduceMod, Nat.reduceLT, Nat.reduceLeDiff, Nat.reduceEqDiff, Nat.reduceBEq, Nat.reduceBNe, Nat.reduceGT, Int.reduceAdd, Int.reduceSub, Int.reduceMul, Int.reduceNeg, Int.reduceLT, Int.reduceLE, Int.reduceEq, Int.reduceNe, Int.reduceBEq, Int.reduceBNe, Int.reduceToNat, Int.reduceGT, Int.reduceGE, ↓reduceIte, decide_true, decide_false, eq_self, Nat.mul_one, Nat.zero_mul, Nat.one_mul, Int.le_refl, Nat.le_refl, Int.cast_ofNat_Int, hlt, hd, hb]
     refine hI1 _ ⟨k + 1, by omega, hno'⟩ (by simp only; omega) ?_
     simp (decide := true) (maxSteps := 4000000) only [go_sem, Nat.reduceAdd, Nat.reduceSub, Nat.reduceMul, Nat.reduceDiv, Nat.reduceMod, Nat.reduceLT, Nat.reduceLeDiff, Nat.reduceEqDiff, Nat.reduceBEq, Nat.reduceBNe, Nat.reduceGT, Int.reduceAdd, Int.reduceSub, Int.reduceMul, Int.reduceNeg, Int.reduceLT, Int.reduceLE, Int.reduceEq, Int.reduceNe, Int.reduceBEq, Int.reduceBNe, Int.reduceToNat, Int.reduceGT, Int.reduceGE, ↓reduceIte, decide_true, decide_false, eq_self, Nat.mul_one, Nat.zero_mul, Nat.one_mul, Int.le_refl, Nat.le_refl, Int.cast_ofNat_Int, hc1]
   ·have hke : k = l.length := by omega
    subst hke
    have e : fIx2 p l = -1 := fIx2_none hno
    simp (decide := true) (maxSteps := 4000000) only [go_sem, Nat.reduceAdd, Nat.reduceSub, Nat.reduceMul, Nat.reduceDiv, Nat.reduceMod, Nat.reduceLT, Nat.reduceLeDiff, Nat.reduceEqDiff, Nat.reduceBEq, Nat.reduceBNe, Nat.reduceGT, Int.reduceAdd, Int.reduceSub, Int.reduceMul, Int.reduceNeg, Int.reduceLT, Int.reduceLE, Int.reduceEq, Int.reduceNe, Int.reduceBEq, Int.reduceBNe, Int.reduceToNat, Int.reduceGT, Int.reduceGE, ↓reduceIte, decide_true, decide_false, eq_self, Nat.mul_one, Nat.zero_mul, Nat.one_mul, Int.le_refl, Nat.le_refl, Int.cast_ofNat_Int, hlt]
    refine hQ1 _ _ ?_
    simp (decide := true) (maxSteps := 4000000) only [go_sem, Nat.reduceAdd, Nat.reduceSub, Nat.reduceMul, Nat.reduceDiv, Nat.reduceMod, Nat.reduceLT, Nat.reduceLeDiff, Nat.reduceEqDiff, Nat.reduceBEq, Nat.reduceBNe, Nat.reduceGT, Int.reduceAdd, Int.reduceSub, Int.reduceMul, Int.reduceNeg, Int.reduceLT, Int.reduceLE, Int.reduceEq, Int.reduceNe, Int.reduceBEq, Int.reduceBNe, Int.reduceToNat, Int.reduceGT, Int.reduceGE, ↓reduceIte, decide_true, decide_false, eq_self, Nat.mul_one, Nat.zero_mul, Nat.one_mul, Int.le_refl, Nat.le_refl, Int.cast_ofNat_Int, e]
theorem fContainsI_c {fid : FuncId} {caps : List TV} {p : Int → Bool} {l : List Int} {s : TV} (hl : IsRow ic s l) (hll : l.length ≤ 17592186044415) (hc : ∀ x, PCalls Tryd.prog fid (.int .i64 x :: caps) (.bool (p x))) : PCalls Tryd.prog 108 [s, .fn fid [] caps] (.bool (l.any p)) := by
 have hb := fIx2_iff p l
 refine pcalls_by Tryd.mixes (Spec.one_ok (oneP_ok (fIndexI_c hl hll hc)) noSpec_ok) (fn := Tryd.f108) Tryd.func108 rfl (by kernel_rfl) (by show 2 ≤ _; decide) ?_
 simp (decide := true) (maxSteps := 4000000) only [go_sem, Nat.reduceAdd, Nat.reduceSub, Nat.reduceMul, Nat.reduceDiv, Nat.reduceMod, Nat.reduceLT, Nat.reduceLeDiff, Nat.reduceEqDiff, Nat.reduceBEq, Nat.reduceBNe, Nat.reduceGT, Int.reduceAdd, Int.reduceSub, Int.reduceMul, Int.reduceNeg, Int.reduceLT, Int.reduceLE, Int.reduceEq, Int.reduceNe, Int.reduceBEq, Int.reduceBNe, Int.reduceToNat, Int.reduceGT, Int.reduceGE, ↓reduceIte, decide_true, decide_false, eq_self, Nat.mul_one, Nat.zero_mul, Nat.one_mul, Int.le_refl, Nat.le_refl, Int.cast_ofNat_Int, Tryd.f108, hb]
theorem fOut_c (sT : TV) (M n : Int) (hM : 0 ≤ M ∧ M ≤ 100000) : PCalls Tryd.prog 125 [.int .i64 n, .cptr [sT, .int .i64 M]] (.bool (!inB n (-M) M)) := by
 have hw : IntKind.i64.wrap (0 - M) = -M := by rw [wrap_in (by omega) (by omega)]; omega
 refine pcalls_by Tryd.mixes spFw_ok (fn := Tryd.f125) Tryd.func125 rfl (by kernel_rfl) (by show 2 ≤ _; decide) ?_
 simp (decide := true) (maxSteps := 4000000) only [go_sem, Nat.reduceAdd, Nat.reduceSub, Nat.reduceMul, Nat.reduceDiv, Nat.reduceMod, Nat.reduceLT, Nat.reduceLeDiff, Nat.reduceEqDiff, Nat.reduceBEq, Nat.reduceBNe, Nat.reduceGT, Int.reduceAdd, Int.reduceSub, Int.reduceMul, Int.reduceNeg, Int.reduceLT, Int.reduceLE, Int.reduceEq, Int.reduceNe, Int.reduceBEq, Int.reduceBNe, Int.reduceToNat, Int.reduceGT, Int.reduceGE, ↓reduceIte, decide_true, decide_false, eq_self, Nat.mul_one, Nat.zero_mul, Nat.one_mul, Int.le_refl, Nat.le_refl, Int.cast_ofNat_Int, Tryd.f125, hw]
theorem fHolds_c {T : List Int} {M : Int} {E : List (List Int)} {sE : TV} (hE : RowsI sE E) (hEl : E.length = T.length) (hro : rowsTo T M E E.length = true) (x : Rd) (hx : (0 ≤ x.a ∧ x.a < T.length) ∧ (0 ≤ x.i ∧ x.i ≤ nthI T x.a) ∧ (0 ≤ x.b ∧ x.b < T.length) ∧ (0 ≤ x.j ∧ x.j ≤ nthI T x.b)) :
  PCalls Tryd.prog 126 [.agg x.cs, .cptr [sE]] (.bool (holdsB E x)) := by
 obtain ⟨a, i, b, j, v, w⟩ := x
 obtain ⟨⟨a0, a1⟩, ⟨i0, i1⟩, ⟨b0, b1⟩, ⟨j0, j1⟩⟩ := hx
 simp only at a0 a1 i0 i1 b0 b1 j0 j1
 obtain ⟨ka, rfl⟩ : ∃ n : Nat, a = n := ⟨a.toNat, by omega⟩
 obtain ⟨ki, rfl⟩ : ∃ n : Nat, i = n := ⟨i.toNat, by omega⟩
 obtain ⟨kb, rfl⟩ : ∃ n : Nat, b = n := ⟨b.toNat, by omega⟩
 obtain ⟨kj, rfl⟩ : ∃ n : Nat, j = n := ⟨j.toNat, by omega⟩
 rcases hE with ⟨_, rfl⟩ | ⟨cs, f, rfl, hcs, hrow⟩
 ·simp at hEl; omega
 obtain ⟨ra, hra⟩ := get_lt (l := E) (k := ka) (by omega)
 obtain ⟨rb, hrb⟩ := get_lt (l := E) (k := kb) (by omega)
 obtain ⟨ca, hca⟩ := get_lt (l := cs) (k := ka) (by omega)
 obtain ⟨cb, hcb⟩ := get_lt (l := cs) (k := kb) (by omega)
 have oa := rowOk_iff (rowsTo_at hro (by omega) hra)
 have ob := rowOk_iff (rowsTo_at hro (by omega) hrb)
 obtain ⟨fa, rfl⟩ := (hrow ka ca ra hca hra).1.ne (by omega)
 obtain ⟨fb, rfl⟩ := (hrow kb cb rb hcb hrb).1.ne (by omega)
 rw [ic_ints] at hca hcb
 obtain ⟨xa, hxa⟩ := get_lt (l := ra) (k := ki) (by omega)
 obtain ⟨xb, hxb⟩ := get_lt (l := rb) (k := kj) (by omega)
 have da := ints_at hxa
 have db := ints_at hxb
 rw [Nat.mul_one] at da db
 have ea : eAt E ka ki = xa := by
  unfold eAt; rw [Int.toNat_natCast, List.getD_eq_getElem?_getD, hra]; exact nthI_at hxa
 have eb : eAt E kb kj = xb := by
  unfold eAt; rw [Int.toNat_natCast, List.getD_eq_getElem?_getD, hrb]; exact nthI_at hxb
 have hca' : cs.drop ka = .sl (ints ra) ra.length fa :: cs.drop (ka + 1) := by
  have hk := (List.getElem?_eq_some_iff.1 hca)
  rw [List.drop_eq_getElem_cons hk.1, hk.2]
 have hcb' : cs.drop kb = .sl (ints rb) rb.length fb :: cs.drop (kb + 1) := by
  have hk := (List.getElem?_eq_some_iff.1 hcb)
  rw [List.drop_eq_getElem_cons hk.1, hk.2]
 have q1 : (ka : Int) < E.length := by omega
 have q2 : (kb : Int) < E.length := by omega
 have q3 : (ki : Int) < ra.length := by omega
 have q4 : (kj : Int) < rb.length := by omega
 unfold holdsB
 rw [ea, eb]
 refine pcalls_by Tryd.mixes spFw_ok (fn := Tryd.f126) Tryd.func126 rfl (by kernel_rfl) (by show 2 ≤ _; decide) ?_
 simp (decide := true) (maxSteps := 4000000) only [go_sem, Nat.reduceAdd, Nat.reduceSub, Nat.reduceMul, Nat.reduceDiv, Nat.reduceMod, Nat.reduceLT, Nat.reduceLeDiff, Nat.reduceEqDiff, Nat.reduceBEq, Nat.reduceBNe, Nat.reduceGT, Int.reduceAdd, Int.reduceSub, Int.reduceMul, Int.reduceNeg, Int.reduceLT, Int.reduceLE, Int.reduceEq, Int.reduceNe, Int.reduceBEq, Int.reduceBNe, Int.reduceToNat, Int.reduceGT, Int.reduceGE, ↓reduceIte, decide_true, decide_false, eq_self, Nat.mul_one, Nat.zero_mul, Nat.one_mul, Int.le_refl, Nat.le_refl, Int.cast_ofNat_Int, Tryd.f126, Rd.cs, q1, q2, q3, q4, hca', hcb', da, db]
theorem fHolds3_c {T : List Int} {M : Int} {E : List (List Int)} {sE : TV} (hE : RowsI sE E) (hEl : E.length = T.length) (hro : rowsTo T M E E.length = true) (x : Rd) (hx : (0 ≤ x.a ∧ x.a < T.length) ∧ (0 ≤ x.i ∧ x.i ≤ nthI T x.a) ∧ (0 ≤ x.b ∧ x.b < T.length) ∧ (0 ≤ x.j ∧ x.j ≤ nthI T x.b)) :
  PCalls Tryd.prog 128 [.agg x.cs, .cptr [.fn 126 [] [.cptr [sE]]]] (.bool (!holdsB E x)) := by
 have h := fHolds_c hE hEl hro x hx
 obtain ⟨a, i, b, j, v, w⟩ := x
 refine pcalls_by Tryd.mixes (Spec.one_ok (oneP_ok h) noSpec_ok) (fn := Tryd.f128) Tryd.func128 rfl (by kernel_rfl) (by show 2 ≤ _; decide) ?_
 simp (decide := true) (maxSteps := 4000000) only [go_sem, Nat.reduceAdd, Nat.reduceSub, Nat.reduceMul, Nat.reduceDiv, Nat.reduceMod, Nat.reduceLT, Nat.reduceLeDiff, Nat.reduceEqDiff, Nat.reduceBEq, Nat.reduceBNe, Nat.reduceGT, Int.reduceAdd, Int.reduceSub, Int.reduceMul, Int.reduceNeg, Int.reduceLT, Int.reduceLE, Int.reduceEq, Int.reduceNe, Int.reduceBEq, Int.reduceBNe, Int.reduceToNat, Int.reduceGT, Int.reduceGE, ↓reduceIte, decide_true, decide_false, eq_self, Nat.mul_one, Nat.zero_mul, Nat.one_mul, Int.le_refl, Nat.le_refl, Int.cast_ofNat_Int, Tryd.f128, Rd.cs]
theorem fTruth_c {T : List Int} {sT : TV} (M : Int) (hT : IsRow ic sT T) (hTl : T.length ≤ 17592186044415) {L : List Rd} {sL : TV} (hL : IsRow Rd.cs sL L) (hLl : L.length ≤ 2932031007402) {E : List (List Int)} {sE : TV} (hE : RowsI sE E) (hElen : E.length ≤ 5864062014806) :
  PCalls Tryd.prog 78 [.agg [sT, .int .i64 M], sL, sE] (.tup [.bool (truthP T M L E).1, .int .i64 (truthP T M L E).2]) := by
 have hA := fAsked_c M hT hTl hL hLl
 unfold truthP
 by_cases h0 : askedE T M L = 0
 case neg =>
  rw [if_neg h0]
  have b0 : (askedE T M L != 0) = true := by simpa using h0
  refine pcalls_by Tryd.mixes (Spec.one_ok (oneP_ok hA) noSpec_ok) (fn := Tryd.f78) Tryd.func78 rfl (by kernel_rfl) (by show 3 ≤ _; decide) ?_
  simp (decide := true) (maxSteps := 4000000) only [go_sem, Nat.reduceAdd, Nat.reduceSub, Nat.reduceMul, Nat.reduceDiv, Nat.reduceMod, Nat.reduceLT, Nat.reduceLeDiff, Nat.reduceEqDiff, Nat.reduceBEq, Nat.reduceBNe, Nat.reduceGT, Int.reduceAdd, Int.reduceSub, Int.reduceMul, Int.reduceNeg, Int.reduceLT, Int.reduceLE, Int.reduceEq, Int.reduceNe, Int.reduceBEq, Int.reduceBNe, Int.reduceToNat, Int.reduceGT, Int.reduceGE, ↓reduceIte, decide_true, decide_false, eq_self, Nat.mul_one, Nat.zero_mul, Nat.one_mul, Int.le_refl, Nat.le_refl, Int.cast_ofNat_Int, Tryd.f78, b0, RowsI_pc hE]
 rw [if_pos h0]
 rw [h0] at hA
 obtain ⟨⟨hT4, hM, hT8⟩, hL24, hrd⟩ := asked_iff h0
 obtain ⟨fT, rfl⟩ := hT.ne (by omega)
 rw [ic_ints] at *
 by_cases hEl : E.length = T.length
 case neg =>
  rw [if_neg hEl]
  have b1 : ((E.length : Int) != T.length) = true := bne_int_t (by omega)
  refine pcalls_by Tryd.mixes (Spec.one_ok (oneP_ok hA) noSpec_ok) (fn := Tryd.f78) Tryd.func78 rfl (by kernel_rfl) (by show 3 ≤ _; decide) ?_
  rcases hE with ⟨rfl, rfl⟩ | ⟨cs, f, rfl, hcs, hrow⟩
  ·simp only [List.length_nil] at b1
   have b1 : ((0 : Int) != T.length) = true := b1
   simp (decide := true) (maxSteps := 4000000) only [go_sem, Nat.reduceAdd, Nat.reduceSub, Nat.reduceMul, Nat.reduceDiv, Nat.reduceMod, Nat.reduceLT, Nat.reduceLeDiff, Nat.reduceEqDiff, Nat.reduceBEq, Nat.reduceBNe, Nat.reduceGT, Int.reduceAdd, Int.reduceSub, Int.reduceMul, Int.reduceNeg, Int.reduceLT, Int.reduceLE, Int.reduceEq, Int.reduceNe, Int.reduceBEq, Int.reduceBNe, Int.reduceToNat, Int.reduceGT, Int.reduceGE, ↓reduceIte, decide_true, decide_false, eq_self, Nat.mul_one, Nat.zero_mul, Nat.one_mul, Int.le_refl, Nat.le_refl, Int.cast_ofNat_Int, Tryd.f78, b1]
  ·simp (decide := true) (maxSteps := 4000000) only [go_sem, Nat.reduceAdd, Nat.reduceSub, Nat.reduceMul, Nat.reduceDiv, Nat.reduceMod, Nat.reduceLT, Nat.reduceLeDiff, Nat.reduceEqDiff, Nat.reduceBEq, Nat.reduceBNe, Nat.reduceGT, Int.reduceAdd, Int.reduceSub, Int.reduceMul, Int.reduceNeg, Int.reduceLT, Int.reduceLE, Int.reduceEq, Int.reduceNe, Int.reduceBEq, Int.reduceBNe, Int.reduceToNat, Int.reduceGT, Int.reduceGE, ↓reduceIte, decide_true, decide_false, eq_self, Nat.mul_one, Nat.zero_mul, Nat.one_mul, Int.le_refl, Nat.le_refl, Int.cast_ofNat_Int, Tryd.f78, b1]
 rw [if_pos hEl]
 have hE' := hE
 rcases hE with ⟨_, rfl⟩ | ⟨cs, f, rfl, hcs, hrow⟩
 ·simp at hEl; omega
 have b1 : ((E.length : Int) != T.length) = false := bne_int_f (by omega)
 have hO := fun n => fOut_c (.sl (ints T) T.length fT) M n hM
 by_cases hro : rowsTo T M E E.length = true
 ·rw [if_pos hro]
  have hC := fContainsR_c (p := fun x => !holdsB E x) (fid := 128) (caps := [.cptr [.fn 126 [] [.cptr [.sl cs E.length f]]]]) hL hLl (fun x hx => fHolds3_c hE' hEl hro x ⟨(hrd x hx).1, (hrd x hx).2.1, (hrd x hx).2.2.1, (hrd x hx).2.2.2.1⟩)
  have hany : (L.any fun x => !holdsB E x) = !(L.all (holdsB E)) := by rw [List.not_all_eq_any_not]
  rw [hany] at hC
  have hrows : ∀ (r : List Int) (c : TV), IsRow ic c r → r.length ≤ 17592186044415 → PCalls Tryd.prog 108 [c, .fn 125 [] [.cptr [.sl (ints T) T.length fT, .int .i64 M]]] (.bool (r.any fun n => !inB n (-M) M)) := fun r c hc hl => fContainsI_c hc hl hO
  refine pcalls_by Tryd.mixes (Spec.frz_ok (Spec.gdt_ok (Spec.one_ok (rwP_ok hrows) (Spec.one_ok (oneP_ok hA) (Spec.one_ok (oneP_ok hC) noSpec_ok))))) (fn := Tryd.f78) Tryd.func78 rfl (by kernel_rfl) (by show 3 ≤ _; decide) ?_
  simp (decide := true) (implicitDefEqProofs := false) (maxSteps := 4000000) only [go_sem, Nat.reduceAdd, Nat.reduceSub, Nat.reduceMul, Nat.reduceDiv, Nat.reduceMod, Nat.reduceLT, Nat.reduceLeDiff, Nat.reduceEqDiff, Nat.reduceBEq, Nat.reduceBNe, Nat.reduceGT, Int.reduceAdd, Int.reduceSub, Int.reduceMul, Int.reduceNeg, Int.reduceLT, Int.reduceLE, Int.reduceEq, Int.reduceNe, Int.reduceBEq, Int.reduceBNe, Int.reduceToNat, Int.reduceGT, Int.reduceGE, ↓reduceIte, decide_true, decide_false, eq_self, Nat.mul_one, Nat.zero_mul, Nat.one_mul, Int.le_refl, Nat.le_refl, Int.cast_ofNat_Int, Tryd.f78, b1]
  refine pwpC_loopU (A := { k : Nat // k ≤ E.length ∧ rowsTo T M E k = true }) [1, 3, 5, 6, 7, 24, 25] (fun k => [(26, .t (.int .i64 k.1))]) (fun k => [(0, objS T fT M k.1)]) (fun k => E.length - k.1) ⟨0, by omega, rfl⟩ (by decide) (fun _ => by rfl) ?_ fun Q1 hQ1 ⟨k, hk, hkt⟩ I1 hI1 => ?_
  ·simp (decide := true) (implicitDefEqProofs := false) (maxSteps := 4000000) only [go_sem, Nat.reduceAdd, Nat.reduceSub, Nat.reduceMul, Nat.reduceDiv, Nat.reduceMod, Nat.reduceLT, Nat.reduceLeDiff, Nat.reduceEqDiff, Nat.reduceBEq, Nat.reduceBNe, Nat.reduceGT, Int.reduceAdd, Int.reduceSub, Int.reduceMul, Int.reduceNeg, Int.reduceLT, Int.reduceLE, Int.reduceEq, Int.reduceNe, Int.reduceBEq, Int.reduceBNe, Int.reduceToNat, Int.reduceGT, Int.reduceGE, ↓reduceIte, decide_true, decide_false, eq_self, Nat.mul_one, Nat.zero_mul, Nat.one_mul, Int.le_refl, Nat.le_refl, Int.cast_ofNat_Int, objS_z T fT M rfl]
  ·by_cases hlt : (k : Int) < E.length
   ·obtain ⟨r, hr⟩ := get_lt hlt
    obtain ⟨c, hc⟩ := get_lt (l := cs) (k := k) (by omega)
    obtain ⟨x, hx⟩ := get_lt (l := T) (k := k) (by omega)
    have hdT := ints_at hx
    rw [Nat.mul_one] at hdT
    have hx8 := hT8 x (List.mem_of_getElem? hx)
    obtain ⟨hrow1, hrl⟩ := hrow k c r hc hr
    have hw : IntKind.i64.wrap (x + 1) = x + 1 := wrap_in (by omega) (by omega)
    have hw1 : IntKind.i64.wrap ((k : Int) + 1) = ((k + 1 : Nat) : Int) := by rw [wrap_in (by omega) (by omega)]; omega
    have hdc : cs.drop k = c :: cs.drop (k + 1) := by
     have hk := (List.getElem?_eq_some_iff.1 hc)
     rw [List.drop_eq_getElem_cons hk.1, hk.2]
    have hkT : (k : Int) < T.length := by omega
    have hsucc := rowsTo_succ T M E k
    rw [hkt, Bool.true_and, List.getD_eq_getElem?_getD, hr, Option.getD_some, nthI_at hx] at hsucc
    by_cases d1 : (r.length : Int) = x + 1
    ·obtain ⟨fr, rfl⟩ := hrow1.ne (by omega)
     rw [ic_ints] at *
     obtain ⟨y, hy⟩ := get_lt (l := r) (k := 0) (by omega)
     have hd0 : (ints r)[0]? = some (.int .i64 y) := by unfold ints; rw [List.getElem?_map, hy]; rfl
     have hy0 : nthI r 0 = y := nthI_at hy
     have e1 : ((r.length : Int) != x + 1) = false := bne_int_f d1
     have hl0 : (0 : Int) < r.length := by omega
     by_cases d2 : y = 0
     ·have e2 : (y != 0) = false := bne_int_f d2
      cases d3 : (r.any fun n => !inB n (-M) M) with
      | true =>
       have hbad : rowsTo T M E (k + 1) = false := by
        rw [hsucc]; unfold rowOk
        have : (r.all fun n => inB n (-M) M) = false := by rw [List.all_eq_not_any_not, d3]; rfl
        rw [this, Bool.and_false, Bool.and_false]
       exfalso; have := rowsTo_mono (show k + 1 ≤ E.length by omega) hbad; rw [hro] at this; cases this
      | false =>
       have hgood : rowsTo T M E (k + 1) = true := by
        rw [hsucc]; unfold rowOk
        have : (r.all fun n => inB n (-M) M) = true := by rw [List.all_eq_not_any_not, d3]; rfl
        rw [this, hy0, d2, d1]; simp
       have ho := objS_cases T fT M k
       rcases ho with ho | ho
       all_goals
        simp (decide := true) (implicitDefEqProofs := false) (maxSteps := 4000000) only [go_sem, Nat.reduceAdd, Nat.reduceSub, Nat.reduceMul, Nat.reduceDiv, Nat.reduceMod, Nat.reduceLT, Nat.reduceLeDiff, Nat.reduceEqDiff, Nat.reduceBEq, Nat.reduceBNe, Nat.reduceGT, Int.reduceAdd, Int.reduceSub, Int.reduceMul, Int.reduceNeg, Int.reduceLT, Int.reduceLE, Int.reduceEq, Int.reduceNe, Int.reduceBEq, Int.reduceBNe, Int.reduceToNat, Int.reduceGT, Int.reduceGE, ↓reduceIte, decide_true, decide_false, eq_self, Nat.mul_one, Nat.zero_mul, Nat.one_mul, Int.le_refl, Nat.le_refl, Int.cast_ofNat_Int, ho, hlt, hdc, hkT, hdT, hw, e1, e2, ints_len, hd0, hl0, rowL, Ix.unI_eq, hrl, d3]
        refine hI1 _ ⟨_, by omega, hgood⟩ (by simp only; omega) ?_
        simp (decide := true) (implicitDefEqProofs := false) (maxSteps := 4000000) only [go_sem, Nat.reduceAdd, Nat.reduceSub, Nat.reduceMul, Nat.reduceDiv, Nat.reduceMod, Nat.reduceLT, Nat.reduceLeDiff, Nat.reduceEqDiff, Nat.reduceBEq, Nat.reduceBNe, Nat.reduceGT, Int.reduceAdd, Int.reduceSub, Int.reduceMul, Int.reduceNeg, Int.reduceLT, Int.reduceLE, Int.reduceEq, Int.reduceNe, Int.reduceBEq, Int.reduceBNe, Int.reduceToNat, Int.reduceGT, Int.reduceGE, ↓reduceIte, decide_true, decide_false, eq_self, Nat.mul_one, Nat.zero_mul, Nat.one_mul, Int.le_refl, Nat.le_refl, Int.cast_ofNat_Int, hw1, objS_s T fT M (Nat.succ_pos k)]
        first | done | trace_state
     ·have e2 : (y != 0) = true := bne_int_t d2
      have hbad : rowsTo T M E (k + 1) = false := by
       rw [hsucc]; unfold rowOk
       rw [hy0, decide_eq_false d2, Bool.false_and, Bool.and_false]
      exfalso; have := rowsTo_mono (show k + 1 ≤ E.length by omega) hbad; rw [hro] at this; cases this
    ·have hbad : rowsTo T M E (k + 1) = false := by
      rw [hsucc]; unfold rowOk
      rw [decide_eq_false d1, Bool.false_and]
     have e1 : ((r.length : Int) != x + 1) = true := bne_int_t d1
     exfalso; have := rowsTo_mono (show k + 1 ≤ E.length by omega) hbad; rw [hro] at this; cases this
   ·have hke : k = E.length := by omega
    subst hke
    have ho := objS_s T fT M (show 0 < E.length by omega)
    simp (decide := true) (implicitDefEqProofs := false) (maxSteps := 4000000) only [go_sem, Nat.reduceAdd, Nat.reduceSub, Nat.reduceMul, Nat.reduceDiv, Nat.reduceMod, Nat.reduceLT, Nat.reduceLeDiff, Nat.reduceEqDiff, Nat.reduceBEq, Nat.reduceBNe, Nat.reduceGT, Int.reduceAdd, Int.reduceSub, Int.reduceMul, Int.reduceNeg, Int.reduceLT, Int.reduceLE, Int.reduceEq, Int.reduceNe, Int.reduceBEq, Int.reduceBNe, Int.reduceToNat, Int.reduceGT, Int.reduceGE, ↓reduceIte, decide_true, decide_false, eq_self, Nat.mul_one, Nat.zero_mul, Nat.one_mul, Int.le_refl, Nat.le_refl, Int.cast_ofNat_Int, hlt, ho]
    refine hQ1 _ _ ?_
    simp (decide := true) (implicitDefEqProofs := false) (maxSteps := 4000000) only [go_sem, Nat.reduceAdd, Nat.reduceSub, Nat.reduceMul, Nat.reduceDiv, Nat.reduceMod, Nat.reduceLT, Nat.reduceLeDiff, Nat.reduceEqDiff, Nat.reduceBEq, Nat.reduceBNe, Nat.reduceGT, Int.reduceAdd, Int.reduceSub, Int.reduceMul, Int.reduceNeg, Int.reduceLT, Int.reduceLE, Int.reduceEq, Int.reduceNe, Int.reduceBEq, Int.reduceBNe, Int.reduceToNat, Int.reduceGT, Int.reduceGE, ↓reduceIte, decide_true, decide_false, eq_self, Nat.mul_one, Nat.zero_mul, Nat.one_mul, Int.le_refl, Nat.le_refl, Int.cast_ofNat_Int, Bool.not_not]
    first | done | trace_state
 ·rw [if_neg hro]
  have hrows : ∀ (r : List Int) (c : TV), IsRow ic c r → r.length ≤ 17592186044415 → PCalls Tryd.prog 108 [c, .fn 125 [] [.cptr [.sl (ints T) T.length fT, .int .i64 M]]] (.bool (r.any fun n => !inB n (-M) M)) := fun r c hc hl => fContainsI_c hc hl hO
  refine pcalls_by Tryd.mixes (Spec.frz_ok (Spec.gdt_ok (Spec.one_ok (rwP_ok hrows) (Spec.one_ok (oneP_ok hA) noSpec_ok)))) (fn := Tryd.f78) Tryd.func78 rfl (by kernel_rfl) (by show 3 ≤ _; decide) ?_
  simp (decide := true) (implicitDefEqProofs := false) (maxSteps := 4000000) only [go_sem, Nat.reduceAdd, Nat.reduceSub, Nat.reduceMul, Nat.reduceDiv, Nat.reduceMod, Nat.reduceLT, Nat.reduceLeDiff, Nat.reduceEqDiff, Nat.reduceBEq, Nat.reduceBNe, Nat.reduceGT, Int.reduceAdd, Int.reduceSub, Int.reduceMul, Int.reduceNeg, Int.reduceLT, Int.reduceLE, Int.reduceEq, Int.reduceNe, Int.reduceBEq, Int.reduceBNe, Int.reduceToNat, Int.reduceGT, Int.reduceGE, ↓reduceIte, decide_true, decide_false, eq_self, Nat.mul_one, Nat.zero_mul, Nat.one_mul, Int.le_refl, Nat.le_refl, Int.cast_ofNat_Int, Tryd.f78, b1]
  refine pwpC_loopU (A := { k : Nat // k ≤ E.length ∧ rowsTo T M E k = true }) [1, 3, 5, 6, 7, 24, 25] (fun k => [(26, .t (.int .i64 k.1))]) (fun k => [(0, objS T fT M k.1)]) (fun k => E.length - k.1) ⟨0, by omega, rfl⟩ (by decide) (fun _ => by rfl) ?_ fun Q1 hQ1 ⟨k, hk, hkt⟩ I1 hI1 => ?_
  ·simp (decide := true) (implicitDefEqProofs := false) (maxSteps := 4000000) only [go_sem, Nat.reduceAdd, Nat.reduceSub, Nat.reduceMul, Nat.reduceDiv, Nat.reduceMod, Nat.reduceLT, Nat.reduceLeDiff, Nat.reduceEqDiff, Nat.reduceBEq, Nat.reduceBNe, Nat.reduceGT, Int.reduceAdd, Int.reduceSub, Int.reduceMul, Int.reduceNeg, Int.reduceLT, Int.reduceLE, Int.reduceEq, Int.reduceNe, Int.reduceBEq, Int.reduceBNe, Int.reduceToNat, Int.reduceGT, Int.reduceGE, ↓reduceIte, decide_true, decide_false, eq_self, Nat.mul_one, Nat.zero_mul, Nat.one_mul, Int.le_refl, Nat.le_refl, Int.cast_ofNat_Int, objS_z T fT M rfl]
  ·by_cases hlt : (k : Int) < E.length
   ·obtain ⟨r, hr⟩ := get_lt hlt
    obtain ⟨c, hc⟩ := get_lt (l := cs) (k := k) (by omega)
    obtain ⟨x, hx⟩ := get_lt (l := T) (k := k) (by omega)
    have hdT := ints_at hx
    rw [Nat.mul_one] at hdT
    have hx8 := hT8 x (List.mem_of_getElem? hx)
    obtain ⟨hrow1, hrl⟩ := hrow k c r hc hr
    have hw : IntKind.i64.wrap (x + 1) = x + 1 := wrap_in (by omega) (by omega)
    have hw1 : IntKind.i64.wrap ((k : Int) + 1) = ((k + 1 : Nat) : Int) := by rw [wrap_in (by omega) (by omega)]; omega
    have hdc : cs.drop k = c :: cs.drop (k + 1) := by
     have hk := (List.getElem?_eq_some_iff.1 hc)
     rw [List.drop_eq_getElem_cons hk.1, hk.2]
    have hkT : (k : Int) < T.length := by omega
    have hsucc := rowsTo_succ T M E k
    rw [hkt, Bool.true_and, List.getD_eq_getElem?_getD, hr, Option.getD_some, nthI_at hx] at hsucc
    by_cases d1 : (r.length : Int) = x + 1
    ·obtain ⟨fr, rfl⟩ := hrow1.ne (by omega)
     rw [ic_ints] at *
     obtain ⟨y, hy⟩ := get_lt (l := r) (k := 0) (by omega)
     have hd0 : (ints r)[0]? = some (.int .i64 y) := by unfold ints; rw [List.getElem?_map, hy]; rfl
     have hy0 : nthI r 0 = y := nthI_at hy
     have e1 : ((r.length : Int) != x + 1) = false := bne_int_f d1
     have hl0 : (0 : Int) < r.length := by omega
     by_cases d2 : y = 0
     ·have e2 : (y != 0) = false := bne_int_f d2
      cases d3 : (r.any fun n => !inB n (-M) M) with
      | true =>
       have hbad : rowsTo T M E (k + 1) = false := by
        rw [hsucc]; unfold rowOk
        have : (r.all fun n => inB n (-M) M) = false := by rw [List.all_eq_not_any_not, d3]; rfl
        rw [this, Bool.and_false, Bool.and_false]
       have ho := objS_cases T fT M k
       rcases ho with ho | ho
       all_goals
        simp (decide := true) (implicitDefEqProofs := false) (maxSteps := 4000000) only [go_sem, Nat.reduceAdd, Nat.reduceSub, Nat.reduceMul, Nat.reduceDiv, Nat.reduceMod, Nat.reduceLT, Nat.reduceLeDiff, Nat.reduceEqDiff, Nat.reduceBEq, Nat.reduceBNe, Nat.reduceGT, Int.reduceAdd, Int.reduceSub, Int.reduceMul, Int.reduceNeg, Int.reduceLT, Int.reduceLE, Int.reduceEq, Int.reduceNe, Int.reduceBEq, Int.reduceBNe, Int.reduceToNat, Int.reduceGT, Int.reduceGE, ↓reduceIte, decide_true, decide_false, eq_self, Nat.mul_one, Nat.zero_mul, Nat.one_mul, Int.le_refl, Nat.le_refl, Int.cast_ofNat_Int, ho, hlt, hdc, hkT, hdT, hw, e1, e2, ints_len, hd0, hl0, rowL, Ix.unI_eq, hrl, d3]
        refine hQ1 _ _ ?_
        simp (decide := true) (implicitDefEqProofs := false) (maxSteps := 4000000) only [go_sem, Nat.reduceAdd, Nat.reduceSub, Nat.reduceMul, Nat.reduceDiv, Nat.reduceMod, Nat.reduceLT, Nat.reduceLeDiff, Nat.reduceEqDiff, Nat.reduceBEq, Nat.reduceBNe, Nat.reduceGT, Int.reduceAdd, Int.reduceSub, Int.reduceMul, Int.reduceNeg, Int.reduceLT, Int.reduceLE, Int.reduceEq, Int.reduceNe, Int.reduceBEq, Int.reduceBNe, Int.reduceToNat, Int.reduceGT, Int.reduceGE, ↓reduceIte, decide_true, decide_false, eq_self, Nat.mul_one, Nat.zero_mul, Nat.one_mul, Int.le_refl, Nat.le_refl, Int.cast_ofNat_Int]
        first | done | trace_state
      | false =>
       have hgood : rowsTo T M E (k + 1) = true := by
        rw [hsucc]; unfold rowOk
        have : (r.all fun n => inB n (-M) M) = true := by rw [List.all_eq_not_any_not, d3]; rfl
        rw [this, hy0, d2, d1]; simp
       have ho := objS_cases T fT M k
       rcases ho with ho | ho
       all_goals
        simp (decide := true) (implicitDefEqProofs := false) (maxSteps := 4000000) only [go_sem, Nat.reduceAdd, Nat.reduceSub, Nat.reduceMul, Nat.reduceDiv, Nat.reduceMod, Nat.reduceLT, Nat.reduceLeDiff, Nat.reduceEqDiff, Nat.reduceBEq, Nat.reduceBNe, Nat.reduceGT, Int.reduceAdd, Int.reduceSub, Int.reduceMul, Int.reduceNeg, Int.reduceLT, Int.reduceLE, Int.reduceEq, Int.reduceNe, Int.reduceBEq, Int.reduceBNe, Int.reduceToNat, Int.reduceGT, Int.reduceGE, ↓reduceIte, decide_true, decide_false, eq_self, Nat.mul_one, Nat.zero_mul, Nat.one_mul, Int.le_refl, Nat.le_refl, Int.cast_ofNat_Int, ho, hlt, hdc, hkT, hdT, hw, e1, e2, ints_len, hd0, hl0, rowL, Ix.unI_eq, hrl, d3]
        refine hI1 _ ⟨_, by omega, hgood⟩ (by simp only; omega) ?_
        simp (decide := true) (implicitDefEqProofs := false) (maxSteps := 4000000) only [go_sem, Nat.reduceAdd, Nat.reduceSub, Nat.reduceMul, Nat.reduceDiv, Nat.reduceMod, Nat.reduceLT, Nat.reduceLeDiff, Nat.reduceEqDiff, Nat.reduceBEq, Nat.reduceBNe, Nat.reduceGT, Int.reduceAdd, Int.reduceSub, Int.reduceMul, Int.reduceNeg, Int.reduceLT, Int.reduceLE, Int.reduceEq, Int.reduceNe, Int.reduceBEq, Int.reduceBNe, Int.reduceToNat, Int.reduceGT, Int.reduceGE, ↓reduceIte, decide_true, decide_false, eq_self, Nat.mul_one, Nat.zero_mul, Nat.one_mul, Int.le_refl, Nat.le_refl, Int.cast_ofNat_Int, hw1, objS_s T fT M (Nat.succ_pos k)]
        first | done | trace_state
     ·have e2 : (y != 0) = true := bne_int_t d2
      have hbad : rowsTo T M E (k + 1) = false := by
       rw [hsucc]; unfold rowOk
       rw [hy0, decide_eq_false d2, Bool.false_and, Bool.and_false]
      have ho := objS_cases T fT M k
      rcases ho with ho | ho
      all_goals
       simp (decide := true) (implicitDefEqProofs := false) (maxSteps := 4000000) only [go_sem, Nat.reduceAdd, Nat.reduceSub, Nat.reduceMul, Nat.reduceDiv, Nat.reduceMod, Nat.reduceLT, Nat.reduceLeDiff, Nat.reduceEqDiff, Nat.reduceBEq, Nat.reduceBNe, Nat.reduceGT, Int.reduceAdd, Int.reduceSub, Int.reduceMul, Int.reduceNeg, Int.reduceLT, Int.reduceLE, Int.reduceEq, Int.reduceNe, Int.reduceBEq, Int.reduceBNe, Int.reduceToNat, Int.reduceGT, Int.reduceGE, ↓reduceIte, decide_true, decide_false, eq_self, Nat.mul_one, Nat.zero_mul, Nat.one_mul, Int.le_refl, Nat.le_refl, Int.cast_ofNat_Int, ho, hlt, hdc, hkT, hdT, hw, e1, e2, ints_len, hd0, hl0, rowL, Ix.unI_eq, hrl]
       refine hQ1 _ _ ?_
       simp (decide := true) (implicitDefEqProofs := false) (maxSteps := 4000000) only [go_sem, Nat.reduceAdd, Nat.reduceSub, Nat.reduceMul, Nat.reduceDiv, Nat.reduceMod, Nat.reduceLT, Nat.reduceLeDiff, Nat.reduceEqDiff, Nat.reduceBEq, Nat.reduceBNe, Nat.reduceGT, Int.reduceAdd, Int.reduceSub, Int.reduceMul, Int.reduceNeg, Int.reduceLT, Int.reduceLE, Int.reduceEq, Int.reduceNe, Int.reduceBEq, Int.reduceBNe, Int.reduceToNat, Int.reduceGT, Int.reduceGE, ↓reduceIte, decide_true, decide_false, eq_self, Nat.mul_one, Nat.zero_mul, Nat.one_mul, Int.le_refl, Nat.le_refl, Int.cast_ofNat_Int]
       first | done | trace_state
    ·have hbad : rowsTo T M E (k + 1) = false := by
      rw [hsucc]; unfold rowOk
      rw [decide_eq_false d1, Bool.false_and]
     have e1 : ((r.length : Int) != x + 1) = true := bne_int_t d1
     rcases hrow1 with ⟨rfl, rfl⟩ | ⟨fr, rfl⟩
     ·have e1 : ((0 : Int) != x + 1) = true := bne_int_t (by omega)
      have ho := objS_cases T fT M k
      rcases ho with ho | ho
      all_goals
       simp (decide := true) (implicitDefEqProofs := false) (maxSteps := 4000000) only [go_sem, Nat.reduceAdd, Nat.reduceSub, Nat.reduceMul, Nat.reduceDiv, Nat.reduceMod, Nat.reduceLT, Nat.reduceLeDiff, Nat.reduceEqDiff, Nat.reduceBEq, Nat.reduceBNe, Nat.reduceGT, Int.reduceAdd, Int.reduceSub, Int.reduceMul, Int.reduceNeg, Int.reduceLT, Int.reduceLE, Int.reduceEq, Int.reduceNe, Int.reduceBEq, Int.reduceBNe, Int.reduceToNat, Int.reduceGT, Int.reduceGE, ↓reduceIte, decide_true, decide_false, eq_self, Nat.mul_one, Nat.zero_mul, Nat.one_mul, Int.le_refl, Nat.le_refl, Int.cast_ofNat_Int, ho, hlt, hdc, hkT, hdT, hw, e1]
       refine hQ1 _ _ ?_
       simp (decide := true) (implicitDefEqProofs := false) (maxSteps := 4000000) only [go_sem, Nat.reduceAdd, Nat.reduceSub, Nat.reduceMul, Nat.reduceDiv, Nat.reduceMod, Nat.reduceLT, Nat.reduceLeDiff, Nat.reduceEqDiff, Nat.reduceBEq, Nat.reduceBNe, Nat.reduceGT, Int.reduceAdd, Int.reduceSub, Int.reduceMul, Int.reduceNeg, Int.reduceLT, Int.reduceLE, Int.reduceEq, Int.reduceNe, Int.reduceBEq, Int.reduceBNe, Int.reduceToNat, Int.reduceGT, Int.reduceGE, ↓reduceIte, decide_true, decide_false, eq_self, Nat.mul_one, Nat.zero_mul, Nat.one_mul, Int.le_refl, Nat.le_refl, Int.cast_ofNat_Int]
       first | done | trace_state
     ·have ho := objS_cases T fT M k
      rcases ho with ho | ho
      all_goals
       simp (decide := true) (implicitDefEqProofs := false) (maxSteps := 4000000) only [go_sem, Nat.reduceAdd, Nat.reduceSub, Nat.reduceMul, Nat.reduceDiv, Nat.reduceMod, Nat.reduceLT, Nat.reduceLeDiff, Nat.reduceEqDiff, Nat.reduceBEq, Nat.reduceBNe, Nat.reduceGT, Int.reduceAdd, Int.reduceSub, Int.reduceMul, Int.reduceNeg, Int.reduceLT, Int.reduceLE, Int.reduceEq, Int.reduceNe, Int.reduceBEq, Int.reduceBNe, Int.reduceToNat, Int.reduceGT, Int.reduceGE, ↓reduceIte, decide_true, decide_false, eq_self, Nat.mul_one, Nat.zero_mul, Nat.one_mul, Int.le_refl, Nat.le_refl, Int.cast_ofNat_Int, ho, hlt, hdc, hkT, hdT, hw, e1]
       refine hQ1 _ _ ?_
       simp (decide := true) (implicitDefEqProofs := false) (maxSteps := 4000000) only [go_sem, Nat.reduceAdd, Nat.reduceSub, Nat.reduceMul, Nat.reduceDiv, Nat.reduceMod, Nat.reduceLT, Nat.reduceLeDiff, Nat.reduceEqDiff, Nat.reduceBEq, Nat.reduceBNe, Nat.reduceGT, Int.reduceAdd, Int.reduceSub, Int.reduceMul, Int.reduceNeg, Int.reduceLT, Int.reduceLE, Int.reduceEq, Int.reduceNe, Int.reduceBEq, Int.reduceBNe, Int.reduceToNat, Int.reduceGT, Int.reduceGE, ↓reduceIte, decide_true, decide_false, eq_self, Nat.mul_one, Nat.zero_mul, Nat.one_mul, Int.le_refl, Nat.le_refl, Int.cast_ofNat_Int]
       first | done | trace_state
   ·have hke : k = E.length := by omega
    subst hke
    exact absurd hkt hro
end Go.Proofs.YtlonlnfenbadbaaDoor

/- Part TFg. -/
namespace Go.Of
open Go Go.RowKit Go.Pm Go.Oc Go.Oh Go.Oc.Ix
def mirR (x : Rd) : Rd := { x with v := -x.v }
def mirTo (L : List Rd) (k : Nat) : List Rd := (L.take k).map mirR ++ L.drop k
theorem mirTo_len (L : List Rd) (k : Nat) : (mirTo L k).length = L.length := by
 unfold mirTo; rw [List.length_append, List.length_map, List.length_take, List.length_drop]; omega
theorem mirTo_at {L : List Rd} {k : Nat} {x : Rd} (h : L[k]? = some x) : (mirTo L k)[k]? = some x := by
 have hk := (List.getElem?_eq_some_iff.1 h).1
 unfold mirTo
 rw [List.getElem?_append_right (by rw [List.length_map, List.length_take]; omega), List.length_map, List.length_take, List.getElem?_drop, show k + (k - min k L.length) = k by omega]
 exact h
theorem mirTo_next {L : List Rd} {k : Nat} {x : Rd} (h : L[k]? = some x) : mirTo L (k + 1) = (mirTo L k).set k (mirR x) := by
 have hk := (List.getElem?_eq_some_iff.1 h).1
 apply List.ext_getElem?
 intro i
 by_cases e : i = k
 ·subst e
  rw [List.getElem?_set_self (by rw [mirTo_len]; exact hk)]
  unfold mirTo
  rw [List.getElem?_append_left (by rw [List.length_map, List.length_take]; omega), List.getElem?_map, List.getElem?_take, if_pos (by omega), h]; rfl
 ·rw [List.getElem?_set_ne (fun h => e h.symm)]
  unfold mirTo
  by_cases c : i < k
  ·rw [List.getElem?_append_left (by rw [List.length_map, List.length_take]; omega), List.getElem?_append_left (by rw [List.length_map, List.length_take]; omega), List.getElem?_map, List.getElem?_map, List.getElem?_take, List.getElem?_take, if_pos (by omega), if_pos c]
  ·rw [List.getElem?_append_right (by rw [List.length_map, List.length_take]; omega), List.getElem?_append_right (by rw [List.length_map, List.length_take]; omega), List.length_map, List.length_map, List.length_take, List.length_take, List.getElem?_drop, List.getElem?_drop]
   congr 1; omega
theorem rd_set : ∀ {l : List Rd} {k : Nat} {x : Rd} (y : Int), l[k]? = some x → (l.flatMap Rd.cs).take (k * 6 + 4) ++ TV.int .i64 y :: (l.flatMap Rd.cs).drop (k * 6 + 4 + 1) = (l.set k { x with v := y }).flatMap Rd.cs
 | [], k, x, y, h => by simp at h
 | z :: l, 0, x, y, h => by
  simp at h; subst h
  simp [Rd.cs]
 | z :: l, k + 1, x, y, h => by
  simp at h
  have ih := rd_set y h
  rw [show (k + 1) * 6 + 4 = (k * 6 + 4) + 6 by omega, show k * 6 + 4 + 6 + 1 = (k * 6 + 4 + 1) + 6 by omega, List.set_cons_succ, List.flatMap_cons, List.flatMap_cons, ← ih]
  simp [Rd.cs]
theorem rd_get {l : List Rd} {k : Nat} {x : Rd} (h : l[k]? = some x) : (l.flatMap Rd.cs)[k * 6 + 4]? = some (.int .i64 x.v) := by
 have := Rd_at h
 rw [← List.getElem?_drop, this]; rfl
theorem rdP_get {l : List Rd} {k : Nat} {x : Rd} (h : l[k]? = some x) : (List.map PV.t (l.flatMap Rd.cs))[k * 6 + 4]? = some (.t (.int .i64 x.v)) := by
 rw [List.getElem?_map, rd_get h]; rfl
theorem rdP_set {l : List Rd} {k : Nat} {x : Rd} (y : Int) (h : l[k]? = some x) : (List.map PV.t (l.flatMap Rd.cs)).take (k * 6 + 4) ++ PV.t (.int .i64 y) :: (List.map PV.t (l.flatMap Rd.cs)).drop (k * 6 + 4 + 1) = List.map PV.t ((l.set k { x with v := y }).flatMap Rd.cs) := by
 rw [← rd_set y h, List.map_append, List.map_cons, List.map_take, List.map_drop]
theorem allO_thaw (h : Hp) : ∀ xs : List TV, allO (List.map (thawC h) (List.map PV.t xs)) = some xs
 | [] => rfl
 | x :: xs => by simp only [List.map_cons, allO, allO_thaw h xs, thawC, PV.toT, Option.map_some]
end Go.Of
namespace Go.Proofs.YtlonlnfenbadbaaDoor
open Go.RowKit Go.Pm Go.Oc Go.Oc.Ix Ix Go.Of Go.Ow
set_option maxRecDepth 100000
set_option linter.unusedVariables false
set_option maxHeartbeats 4000000

noncomputable def spFm : Pm.Spec := { noSpec with mu := fun t => t == 51 }
@[go_sem] theorem spFm_p (f : FuncId) (xs : List TV) : spFm.p f xs = Pm.Spec.p ({ noSpec with mu := fun t => t == 51 }) f xs := rfl
@[go_sem] theorem spFm_h (f : FuncId) (ps : List PV) (hl : List PO) : spFm.h f ps hl = Pm.Spec.h ({ noSpec with mu := fun t => t == 51 }) f ps hl := rfl
@[go_sem] theorem spFm_y (Y : Pm.YS) (f : FuncId) (ps : List PV) (hl : List PO) : spFm.y Y f ps hl = Pm.Spec.y ({ noSpec with mu := fun t => t == 51 }) Y f ps hl := rfl
@[go_sem] theorem spFm_fz (f : FuncId) : spFm.fz f = Pm.Spec.fz ({ noSpec with mu := fun t => t == 51 }) f := rfl
@[go_sem] theorem spFm_fr (f : FuncId) : spFm.fr f = Pm.Spec.fr ({ noSpec with mu := fun t => t == 51 }) f := rfl
@[go_sem] theorem spFm_yf (f : FuncId) : spFm.yf f = Pm.Spec.yf ({ noSpec with mu := fun t => t == 51 }) f := rfl
@[go_sem] theorem spFm_gd : spFm.gd = Pm.Spec.gd ({ noSpec with mu := fun t => t == 51 }) := rfl
@[go_sem] theorem spFm_mu (t : TypeId) : spFm.mu t = Pm.Spec.mu ({ noSpec with mu := fun t => t == 51 }) t := rfl
@[go_sem] theorem spFm_nf (t : TypeId) : spFm.nf t = Pm.Spec.nf ({ noSpec with mu := fun t => t == 51 }) t := rfl
theorem spFm_ok : SpecOk Tryd.prog spFm := ⟨noSpec_ok.1, noSpec_ok.2⟩
theorem fClone_c (l : List Rd) (f : Bool) (h1 : 1 ≤ l.length) (hl : l.length ≤ 1000) : HCalls Tryd.prog 160 [.t (.sl (l.flatMap Rd.cs) l.length f)] (getL []) (.gsl 0 1 6 0 l.length false) (getL [.grow 1 ((l.flatMap Rd.cs).map .t) 218 6]) := by
 have h8 : l.length * 48 ≤ 140737488355328 := by omega
 have hln := Rd_len l
 have h0 : ¬ l.length = 0 := by omega
 have htk : (l.flatMap Rd.cs).take (l.length * 6) = l.flatMap Rd.cs := List.take_of_length_le (by rw [hln]; exact Nat.le_refl _)
 refine hcalls_by Tryd.mixes spFm_ok (fn := Tryd.f160) Tryd.func160 rfl (by kernel_rfl) (by show 1 ≤ _; decide) ?_
 simp (decide := true) (maxSteps := 4000000) only [go_sem, Nat.reduceAdd, Nat.reduceSub, Nat.reduceMul, Nat.reduceDiv, Nat.reduceMod, Nat.reduceLT, Nat.reduceLeDiff, Nat.reduceEqDiff, Nat.reduceBEq, Nat.reduceBNe, Nat.reduceGT, Int.reduceAdd, Int.reduceSub, Int.reduceMul, Int.reduceNeg, Int.reduceLT, Int.reduceLE, Int.reduceEq, Int.reduceNe, Int.reduceBEq, Int.reduceBNe, Int.reduceToNat, Int.reduceGT, Int.reduceGE, ↓reduceIte, decide_true, decide_false, eq_self, Nat.mul_one, Nat.zero_mul, Nat.one_mul, Int.le_refl, Nat.le_refl, Int.cast_ofNat_Int, Tryd.f160, h0, h8, hln, htk, Nat.mul_one]
 exact ⟨_, rfl, rfl⟩
theorem fMir_c (l : List Rd) (f : Bool) (h1 : 1 ≤ l.length) (hl : l.length ≤ 24) (hv : ∀ x ∈ l, -200000 ≤ x.v ∧ x.v ≤ 200000) : PCalls Tryd.prog 130 [.sl (l.flatMap Rd.cs) l.length f] (.sl ((l.map mirR).flatMap Rd.cs) l.length false) := by
 refine pcalls_by Tryd.mixes (Spec.oneH_ok (oneHs_ok (r := (_, [_])) (fClone_c l f h1 (by omega))) spFm_ok) (fn := Tryd.f130) Tryd.func130 rfl (by kernel_rfl) (by show 1 ≤ _; decide) ?_
 simp (decide := true) (maxSteps := 4000000) only [go_sem, Nat.reduceAdd, Nat.reduceSub, Nat.reduceMul, Nat.reduceDiv, Nat.reduceMod, Nat.reduceLT, Nat.reduceLeDiff, Nat.reduceEqDiff, Nat.reduceBEq, Nat.reduceBNe, Nat.reduceGT, Int.reduceAdd, Int.reduceSub, Int.reduceMul, Int.reduceNeg, Int.reduceLT, Int.reduceLE, Int.reduceEq, Int.reduceNe, Int.reduceBEq, Int.reduceBNe, Int.reduceToNat, Int.reduceGT, Int.reduceGE, ↓reduceIte, decide_true, decide_false, eq_self, Nat.mul_one, Nat.zero_mul, Nat.one_mul, Int.le_refl, Nat.le_refl, Int.cast_ofNat_Int, Tryd.f130]
 refine pwpC_loopU (A := { k : Nat // k ≤ l.length }) [3, 8] (fun k => [(9, .t (.int .i64 k.1))]) (fun k => [(0, .grow 1 (((mirTo l k.1).flatMap Rd.cs).map .t) 218 6)]) (fun k => l.length - k.1) ⟨0, by omega⟩ (by decide) (fun _ => by rfl) ?_ fun Q1 hQ1 ⟨k, hk⟩ I1 hI1 => ?_
 ·simp (decide := true) (maxSteps := 4000000) only [go_sem, Nat.reduceAdd, Nat.reduceSub, Nat.reduceMul, Nat.reduceDiv, Nat.reduceMod, Nat.reduceLT, Nat.reduceLeDiff, Nat.reduceEqDiff, Nat.reduceBEq, Nat.reduceBNe, Nat.reduceGT, Int.reduceAdd, Int.reduceSub, Int.reduceMul, Int.reduceNeg, Int.reduceLT, Int.reduceLE, Int.reduceEq, Int.reduceNe, Int.reduceBEq, Int.reduceBNe, Int.reduceToNat, Int.reduceGT, Int.reduceGE, ↓reduceIte, decide_true, decide_false, eq_self, Nat.mul_one, Nat.zero_mul, Nat.one_mul, Int.le_refl, Nat.le_refl, Int.cast_ofNat_Int, show mirTo l 0 = l by unfold mirTo; simp, cells_self]
  first | done | trace_state
 ·by_cases hlt : (k : Int) < l.length
  ·obtain ⟨x, hx⟩ := get_lt hlt
   have hw : IntKind.i64.wrap ((k : Int) + 1) = ((k + 1 : Nat) : Int) := by rw [wrap_in (by omega) (by omega)]; omega
   have hvx := hv x (List.mem_of_getElem? hx)
   have hwv : IntKind.i64.wrap (0 - x.v) = -x.v := by rw [wrap_in (by omega) (by omega)]; omega
   have hg := rdP_get (mirTo_at hx)
   have hs := rdP_set (-x.v) (mirTo_at hx)
   have hnx := mirTo_next hx
   have hmx : ({ x with v := -x.v } : Rd) = mirR x := rfl
   rw [hmx, ← hnx] at hs
   have hln := Rd_len (mirTo l k)
   rw [mirTo_len] at hln
   have hle : k * 6 + 5 ≤ l.length * 6 := by omega
   simp (decide := true) (maxSteps := 4000000) only [go_sem, Nat.reduceAdd, Nat.reduceSub, Nat.reduceMul, Nat.reduceDiv, Nat.reduceMod, Nat.reduceLT, Nat.reduceLeDiff, Nat.reduceEqDiff, Nat.reduceBEq, Nat.reduceBNe, Nat.reduceGT, Int.reduceAdd, Int.reduceSub, Int.reduceMul, Int.reduceNeg, Int.reduceLT, Int.reduceLE, Int.reduceEq, Int.reduceNe, Int.reduceBEq, Int.reduceBNe, Int.reduceToNat, Int.reduceGT, Int.reduceGE, ↓reduceIte, decide_true, decide_false, eq_self, Nat.mul_one, Nat.zero_mul, Nat.one_mul, Int.le_refl, Nat.le_refl, Int.cast_ofNat_Int, hlt, hg, hwv, hs, hln, hle, List.append_assoc, List.length_map]
   refine hI1 _ ⟨k + 1, by omega⟩ (by simp only; omega) ?_
   simp (decide := true) (maxSteps := 4000000) only [go_sem, Nat.reduceAdd, Nat.reduceSub, Nat.reduceMul, Nat.reduceDiv, Nat.reduceMod, Nat.reduceLT, Nat.reduceLeDiff, Nat.reduceEqDiff, Nat.reduceBEq, Nat.reduceBNe, Nat.reduceGT, Int.reduceAdd, Int.reduceSub, Int.reduceMul, Int.reduceNeg, Int.reduceLT, Int.reduceLE, Int.reduceEq, Int.reduceNe, Int.reduceBEq, Int.reduceBNe, Int.reduceToNat, Int.reduceGT, Int.reduceGE, ↓reduceIte, decide_true, decide_false, eq_self, Nat.mul_one, Nat.zero_mul, Nat.one_mul, Int.le_refl, Nat.le_refl, Int.cast_ofNat_Int, hw, cells_self]
   first | done | trace_state
  ·have hkl : k = l.length := by omega
   subst hkl
   have hfull : mirTo l l.length = l.map mirR := by unfold mirTo; simp
   have hln := Rd_len (l.map mirR)
   rw [List.length_map] at hln
   simp (decide := true) (maxSteps := 4000000) only [go_sem, Nat.reduceAdd, Nat.reduceSub, Nat.reduceMul, Nat.reduceDiv, Nat.reduceMod, Nat.reduceLT, Nat.reduceLeDiff, Nat.reduceEqDiff, Nat.reduceBEq, Nat.reduceBNe, Nat.reduceGT, Int.reduceAdd, Int.reduceSub, Int.reduceMul, Int.reduceNeg, Int.reduceLT, Int.reduceLE, Int.reduceEq, Int.reduceNe, Int.reduceBEq, Int.reduceBNe, Int.reduceToNat, Int.reduceGT, Int.reduceGE, ↓reduceIte, decide_true, decide_false, eq_self, Nat.mul_one, Nat.zero_mul, Nat.one_mul, Int.le_refl, Nat.le_refl, Int.cast_ofNat_Int, hlt, hfull]
   refine hQ1 _ _ ?_
   have htk : ((l.map mirR).flatMap Rd.cs).take (l.length * 6) = (l.map mirR).flatMap Rd.cs := List.take_of_length_le (by rw [hln]; exact Nat.le_refl _)
   simp (decide := true) (maxSteps := 4000000) only [go_sem, Nat.reduceAdd, Nat.reduceSub, Nat.reduceMul, Nat.reduceDiv, Nat.reduceMod, Nat.reduceLT, Nat.reduceLeDiff, Nat.reduceEqDiff, Nat.reduceBEq, Nat.reduceBNe, Nat.reduceGT, Int.reduceAdd, Int.reduceSub, Int.reduceMul, Int.reduceNeg, Int.reduceLT, Int.reduceLE, Int.reduceEq, Int.reduceNe, Int.reduceBEq, Int.reduceBNe, Int.reduceToNat, Int.reduceGT, Int.reduceGE, ↓reduceIte, decide_true, decide_false, eq_self, Nat.mul_one, Nat.zero_mul, Nat.one_mul, Int.le_refl, Nat.le_refl, Int.cast_ofNat_Int, allO_thaw, hln, htk, freezeW, freezeO, closedG, seenF, wr, upo, thawA, thawC, Nat.zero_mul, Nat.zero_add, List.drop_zero]
   first | done | trace_state
theorem fMir0_c : PCalls Tryd.prog 130 [.nilSl] .nilSl := by
 have hC : HCalls Tryd.prog 160 [.t .nilSl] (getL []) (.t .nilSl) (getL []) := by
  refine hcalls_by Tryd.mixes spFm_ok (fn := Tryd.f160) Tryd.func160 rfl (by kernel_rfl) (by show 1 ≤ _; decide) ?_
  simp (decide := true) (maxSteps := 4000000) only [go_sem, Nat.reduceAdd, Nat.reduceSub, Nat.reduceMul, Nat.reduceDiv, Nat.reduceMod, Nat.reduceLT, Nat.reduceLeDiff, Nat.reduceEqDiff, Nat.reduceBEq, Nat.reduceBNe, Nat.reduceGT, Int.reduceAdd, Int.reduceSub, Int.reduceMul, Int.reduceNeg, Int.reduceLT, Int.reduceLE, Int.reduceEq, Int.reduceNe, Int.reduceBEq, Int.reduceBNe, Int.reduceToNat, Int.reduceGT, Int.reduceGE, ↓reduceIte, decide_true, decide_false, eq_self, Nat.mul_one, Nat.zero_mul, Nat.one_mul, Int.le_refl, Nat.le_refl, Int.cast_ofNat_Int, Tryd.f160]
  exact ⟨_, rfl, rfl⟩
 refine pcalls_by Tryd.mixes (Spec.oneH_ok (oneHs_ok (r := (_, [])) hC) spFm_ok) (fn := Tryd.f130) Tryd.func130 rfl (by kernel_rfl) (by show 1 ≤ _; decide) ?_
 simp (decide := true) (maxSteps := 4000000) only [go_sem, Nat.reduceAdd, Nat.reduceSub, Nat.reduceMul, Nat.reduceDiv, Nat.reduceMod, Nat.reduceLT, Nat.reduceLeDiff, Nat.reduceEqDiff, Nat.reduceBEq, Nat.reduceBNe, Nat.reduceGT, Int.reduceAdd, Int.reduceSub, Int.reduceMul, Int.reduceNeg, Int.reduceLT, Int.reduceLE, Int.reduceEq, Int.reduceNe, Int.reduceBEq, Int.reduceBNe, Int.reduceToNat, Int.reduceGT, Int.reduceGE, ↓reduceIte, decide_true, decide_false, eq_self, Nat.mul_one, Nat.zero_mul, Nat.one_mul, Int.le_refl, Nat.le_refl, Int.cast_ofNat_Int, Tryd.f130]
 refine pwpC_loopU (A := Unit) [3, 8] (fun k => [(9, .t (.int .i64 0))]) (fun k => []) (fun k => 0) () (by decide) (fun _ => by rfl) ?_ fun Q1 hQ1 _ I1 hI1 => ?_
 ·simp (decide := true) (maxSteps := 4000000) only [go_sem, Nat.reduceAdd, Nat.reduceSub, Nat.reduceMul, Nat.reduceDiv, Nat.reduceMod, Nat.reduceLT, Nat.reduceLeDiff, Nat.reduceEqDiff, Nat.reduceBEq, Nat.reduceBNe, Nat.reduceGT, Int.reduceAdd, Int.reduceSub, Int.reduceMul, Int.reduceNeg, Int.reduceLT, Int.reduceLE, Int.reduceEq, Int.reduceNe, Int.reduceBEq, Int.reduceBNe, Int.reduceToNat, Int.reduceGT, Int.reduceGE, ↓reduceIte, decide_true, decide_false, eq_self, Nat.mul_one, Nat.zero_mul, Nat.one_mul, Int.le_refl, Nat.le_refl, Int.cast_ofNat_Int]
 ·simp (decide := true) (maxSteps := 4000000) only [go_sem, Nat.reduceAdd, Nat.reduceSub, Nat.reduceMul, Nat.reduceDiv, Nat.reduceMod, Nat.reduceLT, Nat.reduceLeDiff, Nat.reduceEqDiff, Nat.reduceBEq, Nat.reduceBNe, Nat.reduceGT, Int.reduceAdd, Int.reduceSub, Int.reduceMul, Int.reduceNeg, Int.reduceLT, Int.reduceLE, Int.reduceEq, Int.reduceNe, Int.reduceBEq, Int.reduceBNe, Int.reduceToNat, Int.reduceGT, Int.reduceGE, ↓reduceIte, decide_true, decide_false, eq_self, Nat.mul_one, Nat.zero_mul, Nat.one_mul, Int.le_refl, Nat.le_refl, Int.cast_ofNat_Int]
  refine hQ1 _ _ ?_
  simp (decide := true) (maxSteps := 4000000) only [go_sem, Nat.reduceAdd, Nat.reduceSub, Nat.reduceMul, Nat.reduceDiv, Nat.reduceMod, Nat.reduceLT, Nat.reduceLeDiff, Nat.reduceEqDiff, Nat.reduceBEq, Nat.reduceBNe, Nat.reduceGT, Int.reduceAdd, Int.reduceSub, Int.reduceMul, Int.reduceNeg, Int.reduceLT, Int.reduceLE, Int.reduceEq, Int.reduceNe, Int.reduceBEq, Int.reduceBNe, Int.reduceToNat, Int.reduceGT, Int.reduceGE, ↓reduceIte, decide_true, decide_false, eq_self, Nat.mul_one, Nat.zero_mul, Nat.one_mul, Int.le_refl, Nat.le_refl, Int.cast_ofNat_Int]
  first | done | trace_state
theorem fMirE_c (f : Bool) : PCalls Tryd.prog 130 [.sl [] 0 f] (.sl [] 0 true) := by
 have hC : HCalls Tryd.prog 160 [.t (.sl [] 0 f)] (getL []) (.t (.sl [] 0 true)) (getL []) := by
  refine hcalls_by Tryd.mixes noSpec_ok (fn := Tryd.f160) Tryd.func160 rfl (by kernel_rfl) (by show 1 ≤ _; decide) ?_
  simp (decide := true) (maxSteps := 4000000) only [go_sem, Nat.reduceAdd, Nat.reduceSub, Nat.reduceMul, Nat.reduceDiv, Nat.reduceMod, Nat.reduceLT, Nat.reduceLeDiff, Nat.reduceEqDiff, Nat.reduceBEq, Nat.reduceBNe, Nat.reduceGT, Int.reduceAdd, Int.reduceSub, Int.reduceMul, Int.reduceNeg, Int.reduceLT, Int.reduceLE, Int.reduceEq, Int.reduceNe, Int.reduceBEq, Int.reduceBNe, Int.reduceToNat, Int.reduceGT, Int.reduceGE, ↓reduceIte, decide_true, decide_false, eq_self, Nat.mul_one, Nat.zero_mul, Nat.one_mul, Int.le_refl, Nat.le_refl, Int.cast_ofNat_Int, Tryd.f160]
  exact ⟨_, rfl, rfl⟩
 refine pcalls_by Tryd.mixes (Spec.oneH_ok (oneHs_ok (r := (_, [])) hC) spFm_ok) (fn := Tryd.f130) Tryd.func130 rfl (by kernel_rfl) (by show 1 ≤ _; decide) ?_
 simp (decide := true) (maxSteps := 4000000) only [go_sem, Nat.reduceAdd, Nat.reduceSub, Nat.reduceMul, Nat.reduceDiv, Nat.reduceMod, Nat.reduceLT, Nat.reduceLeDiff, Nat.reduceEqDiff, Nat.reduceBEq, Nat.reduceBNe, Nat.reduceGT, Int.reduceAdd, Int.reduceSub, Int.reduceMul, Int.reduceNeg, Int.reduceLT, Int.reduceLE, Int.reduceEq, Int.reduceNe, Int.reduceBEq, Int.reduceBNe, Int.reduceToNat, Int.reduceGT, Int.reduceGE, ↓reduceIte, decide_true, decide_false, eq_self, Nat.mul_one, Nat.zero_mul, Nat.one_mul, Int.le_refl, Nat.le_refl, Int.cast_ofNat_Int, Tryd.f130]
 refine pwpC_loopU (A := Unit) [3, 8] (fun k => [(9, .t (.int .i64 0))]) (fun k => []) (fun k => 0) () (by decide) (fun _ => by rfl) ?_ fun Q1 hQ1 _ I1 hI1 => ?_
 ·simp (decide := true) (maxSteps := 4000000) only [go_sem, Nat.reduceAdd, Nat.reduceSub, Nat.reduceMul, Nat.reduceDiv, Nat.reduceMod, Nat.reduceLT, Nat.reduceLeDiff, Nat.reduceEqDiff, Nat.reduceBEq, Nat.reduceBNe, Nat.reduceGT, Int.reduceAdd, Int.reduceSub, Int.reduceMul, Int.reduceNeg, Int.reduceLT, Int.reduceLE, Int.reduceEq, Int.reduceNe, Int.reduceBEq, Int.reduceBNe, Int.reduceToNat, Int.reduceGT, Int.reduceGE, ↓reduceIte, decide_true, decide_false, eq_self, Nat.mul_one, Nat.zero_mul, Nat.one_mul, Int.le_refl, Nat.le_refl, Int.cast_ofNat_Int]
 ·simp (decide := true) (maxSteps := 4000000) only [go_sem, Nat.reduceAdd, Nat.reduceSub, Nat.reduceMul, Nat.reduceDiv, Nat.reduceMod, Nat.reduceLT, Nat.reduceLeDiff, Nat.reduceEqDiff, Nat.reduceBEq, Nat.reduceBNe, Nat.reduceGT, Int.reduceAdd, Int.reduceSub, Int.reduceMul, Int.reduceNeg, Int.reduceLT, Int.reduceLE, Int.reduceEq, Int.reduceNe, Int.reduceBEq, Int.reduceBNe, Int.reduceToNat, Int.reduceGT, Int.reduceGE, ↓reduceIte, decide_true, decide_false, eq_self, Nat.mul_one, Nat.zero_mul, Nat.one_mul, Int.le_refl, Nat.le_refl, Int.cast_ofNat_Int]
  refine hQ1 _ _ ?_
  simp (decide := true) (maxSteps := 4000000) only [go_sem, Nat.reduceAdd, Nat.reduceSub, Nat.reduceMul, Nat.reduceDiv, Nat.reduceMod, Nat.reduceLT, Nat.reduceLeDiff, Nat.reduceEqDiff, Nat.reduceBEq, Nat.reduceBNe, Nat.reduceGT, Int.reduceAdd, Int.reduceSub, Int.reduceMul, Int.reduceNeg, Int.reduceLT, Int.reduceLE, Int.reduceEq, Int.reduceNe, Int.reduceBEq, Int.reduceBNe, Int.reduceToNat, Int.reduceGT, Int.reduceGE, ↓reduceIte, decide_true, decide_false, eq_self, Nat.mul_one, Nat.zero_mul, Nat.one_mul, Int.le_refl, Nat.le_refl, Int.cast_ofNat_Int]
  first | done | trace_state
theorem mir_row {L : List Rd} {s : TV} (hL : IsRow Rd.cs s L) (hl : L.length ≤ 24) (hv : ∀ x ∈ L, -200000 ≤ x.v ∧ x.v ≤ 200000) : ∃ s', IsRow Rd.cs s' (L.map mirR) ∧ PCalls Tryd.prog 130 [s] s' := by
 rcases hL with ⟨rfl, rfl⟩ | ⟨f, rfl⟩
 ·exact ⟨_, .inl ⟨rfl, rfl⟩, fMir0_c⟩
 ·by_cases h0 : L.length = 0
  ·have : L = [] := List.eq_nil_of_length_eq_zero h0
   subst this
   exact ⟨.sl [] 0 true, .inr ⟨true, rfl⟩, fMirE_c f⟩
  ·exact ⟨_, .inr ⟨false, by rw [List.length_map]⟩, fMir_c L f (by omega) hl hv⟩
end Go.Proofs.YtlonlnfenbadbaaDoor

/- Part TFh. -/
namespace Go.Of
open Go Go.RowKit Go.Pm Go.Oc Go.Oh Go.Oc.Ix
def spR (g h : Nat → Int) (i k : Nat) : List TV := (List.range k).flatMap fun q => [.int .i64 (IntKind.i64.wrap (0 - h (i * 9 + q))), .int .i64 (g (i * 9 + q))]
theorem spR_succ (g h : Nat → Int) (i k : Nat) : spR g h i (k + 1) = spR g h i k ++ [.int .i64 (IntKind.i64.wrap (0 - h (i * 9 + k))), .int .i64 (g (i * 9 + k))] := by
 unfold spR; rw [List.range_succ, List.flatMap_append]; rfl
theorem spR_len (g h : Nat → Int) (i k : Nat) : (spR g h i k).length = k * 2 := by
 induction k with
 | zero => rfl
 | succ k ih => rw [spR_succ, List.length_append, ih]; simp; omega
theorem spR_at (g h : Nat → Int) (i : Nat) {k n : Nat} (hk : k < n) : (spR g h i n).drop (k * 2) = .int .i64 (IntKind.i64.wrap (0 - h (i * 9 + k))) :: .int .i64 (g (i * 9 + k)) :: (spR g h i n).drop ((k + 1) * 2) := by
 have := flat_at (fun q : Nat => [TV.int .i64 (IntKind.i64.wrap (0 - h (i * 9 + q))), TV.int .i64 (g (i * 9 + q))]) (n := 2) (fun _ => rfl) (l := List.range n) (k := k) (x := k) (by rw [List.getElem?_range hk])
 unfold spR
 rw [this]
 have h2 : ((List.range n).drop (k + 1)).flatMap (fun q : Nat => [TV.int .i64 (IntKind.i64.wrap (0 - h (i * 9 + q))), TV.int .i64 (g (i * 9 + q))]) = ((List.range n).flatMap fun q : Nat => [TV.int .i64 (IntKind.i64.wrap (0 - h (i * 9 + q))), TV.int .i64 (g (i * 9 + q))]).drop ((k + 1) * 2) := by
  by_cases h3 : k + 1 < n
  ·have := flat_at (fun q : Nat => [TV.int .i64 (IntKind.i64.wrap (0 - h (i * 9 + q))), TV.int .i64 (g (i * 9 + q))]) (n := 2) (fun _ => rfl) (l := List.range n) (k := k + 1) (x := k + 1) (by rw [List.getElem?_range h3])
   rw [this, List.drop_eq_getElem_cons (by simpa using h3), List.flatMap_cons]; simp
  ·rw [List.drop_of_length_le (by rw [List.length_range]; omega), List.drop_of_length_le (by rw [flat_len _ (n := 2) (fun _ => rfl), List.length_range]; omega)]; rfl
 rw [h2]; rfl
def rowW (T : List Int) (g h : Nat → Int) (i : Nat) : TV := .sl (spR g h i ((nthI T i).toNat + 1)) ((nthI T i).toNat + 1) true
def outW (T : List Int) (g h : Nat → Int) (i : Nat) : List TV := (List.range i).map (rowW T g h)
theorem outW_succ (T : List Int) (g h : Nat → Int) (i : Nat) : outW T g h (i + 1) = outW T g h i ++ [rowW T g h i] := by unfold outW; rw [List.range_succ]; simp
theorem outW_len (T : List Int) (g h : Nat → Int) (i : Nat) : (outW T g h i).length = i := by unfold outW; simp
theorem outW_cons (T : List Int) (g h : Nat → Int) (i : Nat) : outW T g h (i + 1) = rowW T g h 0 :: (List.range i).map (fun j => rowW T g h (j + 1)) := by
 unfold outW; rw [List.range_succ_eq_map]; simp
noncomputable def spansP (T : List Int) (M : Int) (L : List Rd) : TV × Int := if askedE T M L = 0 then (if (greatG T M L).2 && (greatG T M (L.map mirR)).2 then (.sl (outW T (greatG T M L).1 (greatG T M (L.map mirR)).1 T.length) T.length false, 0) else (.nilSl, 4)) else (.nilSl, askedE T M L)
end Go.Of
namespace Go.Proofs.YtlonlnfenbadbaaDoor
open Go.RowKit Go.Pm Go.Oc Go.Oc.Ix Ix Go.Of Go.Ow
set_option maxRecDepth 100000
set_option linter.unusedVariables false
set_option maxHeartbeats 4000000

theorem mir_rd {T : List Int} {L : List Rd} (h : rdOk T L) : rdOk T (L.map mirR) := by
 intro x hx
 obtain ⟨y, hy, rfl⟩ := List.mem_map.1 hx
 have := h y hy
 unfold mirR
 exact ⟨this.1, this.2.1, this.2.2.1, this.2.2.2.1, by simp only; omega, this.2.2.2.2.2⟩
theorem rd_inj {x y : Rd} (h : x.cs = y.cs) : x = y := by
 obtain ⟨a, i, b, j, v, w⟩ := x
 obtain ⟨a', i', b', j', v', w'⟩ := y
 simp [Rd.cs] at h
 obtain ⟨rfl, rfl, rfl, rfl, rfl, rfl⟩ := h
 rfl
theorem isRow_inj {s : TV} {l l' : List Rd} (h : IsRow Rd.cs s l) (h' : IsRow Rd.cs s l') : l = l' := by
 rcases h with ⟨rfl, rfl⟩ | ⟨f, rfl⟩
 ·rcases h' with ⟨_, rfl⟩ | ⟨f', e⟩
  ·rfl
  ·cases e
 ·rcases h' with ⟨e, _⟩ | ⟨f', e⟩
  ·cases e
  ·simp only [TV.sl.injEq] at e
   exact flat_inj (c := Rd.cs) (n := 6) (fun _ => rfl) (by omega) (fun _ _ h => rd_inj h) e.1
theorem fSpansW_c {T : List Int} {fT : Bool} {M : Int} (hset : setOk T M) {sL sM : TV} {g h : Nat → Int} {ok is : Bool} {gg : List TV → Option TV} (hgg : ∀ al r, gg al = some r → PCalls Tryd.prog 129 al r)
  (hq1 : gg [.agg [.sl (ints T) T.length fT, .int .i64 M], sL] = some (.tup [.agg (t36 g), .bool ok])) (hq2 : gg [.agg [.sl (ints T) T.length fT, .int .i64 M], sM] = some (.tup [.agg (t36 h), .bool is]))
  (hA : PCalls Tryd.prog 124 [.agg [.sl (ints T) T.length fT, .int .i64 M], sL] (.int .i64 0)) (hMc : PCalls Tryd.prog 130 [sL] sM) :
  PCalls Tryd.prog 79 [.agg [.sl (ints T) T.length fT, .int .i64 M], sL] (if ok && is then .tup [.sl (outW T g h T.length) T.length false, .int .i64 0] else .tup [.nilSl, .int .i64 4]) := by
 obtain ⟨hT4, hM, hT8⟩ := hset
 refine pcalls_by Tryd.mixes (Spec.one_ok (oneP_ok hA) (Spec.one_ok (oneP_ok hMc) (Spec.one_ok hgg noSpec_ok))) (fn := Tryd.f79) Tryd.func79 rfl (by kernel_rfl) (by show 2 ≤ _; decide) ?_
 cases ok with
 | false => simp (decide := true) (maxSteps := 4000000) only [go_sem, Nat.reduceAdd, Nat.reduceSub, Nat.reduceMul, Nat.reduceDiv, Nat.reduceMod, Nat.reduceLT, Nat.reduceLeDiff, Nat.reduceEqDiff, Nat.reduceBEq, Nat.reduceBNe, Nat.reduceGT, Int.reduceAdd, Int.reduceSub, Int.reduceMul, Int.reduceNeg, Int.reduceLT, Int.reduceLE, Int.reduceEq, Int.reduceNe, Int.reduceBEq, Int.reduceBNe, Int.reduceToNat, Int.reduceGT, Int.reduceGE, ↓reduceIte, decide_true, decide_false, eq_self, Nat.mul_one, Nat.zero_mul, Nat.one_mul, Int.le_refl, Nat.le_refl, Int.cast_ofNat_Int, Tryd.f79, hq1, hq2, c36_len, c36_all, c36_take, t36_len, t36_map, c36_drop, List.append_nil]
 | true =>
  cases is with
  | false => simp (decide := true) (maxSteps := 4000000) only [go_sem, Nat.reduceAdd, Nat.reduceSub, Nat.reduceMul, Nat.reduceDiv, Nat.reduceMod, Nat.reduceLT, Nat.reduceLeDiff, Nat.reduceEqDiff, Nat.reduceBEq, Nat.reduceBNe, Nat.reduceGT, Int.reduceAdd, Int.reduceSub, Int.reduceMul, Int.reduceNeg, Int.reduceLT, Int.reduceLE, Int.reduceEq, Int.reduceNe, Int.reduceBEq, Int.reduceBNe, Int.reduceToNat, Int.reduceGT, Int.reduceGE, ↓reduceIte, decide_true, decide_false, eq_self, Nat.mul_one, Nat.zero_mul, Nat.one_mul, Int.le_refl, Nat.le_refl, Int.cast_ofNat_Int, Tryd.f79, hq1, hq2, c36_len, c36_all, c36_take, t36_len, t36_map, c36_drop, List.append_nil]
  | true =>
   simp (decide := true) (maxSteps := 4000000) only [go_sem, Nat.reduceAdd, Nat.reduceSub, Nat.reduceMul, Nat.reduceDiv, Nat.reduceMod, Nat.reduceLT, Nat.reduceLeDiff, Nat.reduceEqDiff, Nat.reduceBEq, Nat.reduceBNe, Nat.reduceGT, Int.reduceAdd, Int.reduceSub, Int.reduceMul, Int.reduceNeg, Int.reduceLT, Int.reduceLE, Int.reduceEq, Int.reduceNe, Int.reduceBEq, Int.reduceBNe, Int.reduceToNat, Int.reduceGT, Int.reduceGE, ↓reduceIte, decide_true, decide_false, eq_self, Nat.mul_one, Nat.zero_mul, Nat.one_mul, Int.le_refl, Nat.le_refl, Int.cast_ofNat_Int, Tryd.f79, hq1, hq2, c36_len, c36_all, c36_take, t36_len, t36_map, c36_drop, List.append_nil]
   refine pwpC_loopU (A := { i : Nat // i ≤ T.length }) [2, 7, 9, 42, 43] (fun i => [(44, .t (.int .i64 i.1)), (11, .own (outW T g h i.1) i.1 3)]) (fun i => [(3, .tok i.1 128)]) (fun i => T.length - i.1) ⟨0, by omega⟩ (by decide) (fun _ => by rfl) ?_ fun Q1 hQ1 ⟨i, hi⟩ I1 hI1 => ?_
   ·simp (decide := true) (maxSteps := 4000000) only [go_sem, Nat.reduceAdd, Nat.reduceSub, Nat.reduceMul, Nat.reduceDiv, Nat.reduceMod, Nat.reduceLT, Nat.reduceLeDiff, Nat.reduceEqDiff, Nat.reduceBEq, Nat.reduceBNe, Nat.reduceGT, Int.reduceAdd, Int.reduceSub, Int.reduceMul, Int.reduceNeg, Int.reduceLT, Int.reduceLE, Int.reduceEq, Int.reduceNe, Int.reduceBEq, Int.reduceBNe, Int.reduceToNat, Int.reduceGT, Int.reduceGE, ↓reduceIte, decide_true, decide_false, eq_self, Nat.mul_one, Nat.zero_mul, Nat.one_mul, Int.le_refl, Nat.le_refl, Int.cast_ofNat_Int, show outW T g h 0 = [] from rfl, cells_self, c36_under]
    first | done | trace_state
   ·by_cases hlt : (i : Int) < T.length
    ·obtain ⟨x, hx⟩ := get_lt hlt
     have hd := ints_at hx
     rw [Nat.mul_one] at hd
     have hx8 := hT8 x (List.mem_of_getElem? hx)
     have hxn := nthI_at hx
     have hw1 : IntKind.i64.wrap ((i : Int) + 1) = ((i + 1 : Nat) : Int) := by rw [wrap_in (by omega) (by omega)]; omega
     have hw2 : IntKind.i64.wrap (x + 1) = x + 1 := wrap_in (by omega) (by omega)
     simp (decide := true) (maxSteps := 4000000) only [go_sem, Nat.reduceAdd, Nat.reduceSub, Nat.reduceMul, Nat.reduceDiv, Nat.reduceMod, Nat.reduceLT, Nat.reduceLeDiff, Nat.reduceEqDiff, Nat.reduceBEq, Nat.reduceBNe, Nat.reduceGT, Int.reduceAdd, Int.reduceSub, Int.reduceMul, Int.reduceNeg, Int.reduceLT, Int.reduceLE, Int.reduceEq, Int.reduceNe, Int.reduceBEq, Int.reduceBNe, Int.reduceToNat, Int.reduceGT, Int.reduceGE, ↓reduceIte, decide_true, decide_false, eq_self, Nat.mul_one, Nat.zero_mul, Nat.one_mul, Int.le_refl, Nat.le_refl, Int.cast_ofNat_Int, hlt, hd, hw2]
     refine pwpC_loopU (A := { k : Nat // (k : Int) ≤ x + 1 }) [2, 7, 9, 42, 43, 44, 11, 12, 13, 50] (fun k => [(51, .t (.int .i64 k.1)), (14, .own (spR g h i k.1) k.1 4)]) (fun k => [(4, .tok k.1 41)]) (fun k => (x + 1).toNat - k.1) ⟨0, by omega⟩ (by decide) (fun _ => by rfl) ?_ fun Q2 hQ2 ⟨k, hk⟩ I2 hI2 => ?_
     ·simp (decide := true) (maxSteps := 4000000) only [go_sem, Nat.reduceAdd, Nat.reduceSub, Nat.reduceMul, Nat.reduceDiv, Nat.reduceMod, Nat.reduceLT, Nat.reduceLeDiff, Nat.reduceEqDiff, Nat.reduceBEq, Nat.reduceBNe, Nat.reduceGT, Int.reduceAdd, Int.reduceSub, Int.reduceMul, Int.reduceNeg, Int.reduceLT, Int.reduceLE, Int.reduceEq, Int.reduceNe, Int.reduceBEq, Int.reduceBNe, Int.reduceToNat, Int.reduceGT, Int.reduceGE, ↓reduceIte, decide_true, decide_false, eq_self, Nat.mul_one, Nat.zero_mul, Nat.one_mul, Int.le_refl, Nat.le_refl, Int.cast_ofNat_Int, show spR g h i 0 = [] from rfl, cells_self, c36_under]
      first | done | trace_state
     ·by_cases hlt2 : (k : Int) < x + 1
      ·have hw3 : IntKind.i64.wrap ((k : Int) + 1) = ((k + 1 : Nat) : Int) := by rw [wrap_in (by omega) (by omega)]; omega
       have hi4 : (i : Int) < 4 := by omega
       have hk9 : (k : Int) < 9 := by omega
       have ho : i * 9 + k < 36 := by omega
       have e1 := c36_at g ho
       have e2 := c36_at h ho
       have hsl := spR_len g h i k
       have h16 : (k + 1) * 16 ≤ 140737488355328 := by omega
       have hsu := spR_succ g h i k
       simp (decide := true) (maxSteps := 4000000) only [go_sem, Nat.reduceAdd, Nat.reduceSub, Nat.reduceMul, Nat.reduceDiv, Nat.reduceMod, Nat.reduceLT, Nat.reduceLeDiff, Nat.reduceEqDiff, Nat.reduceBEq, Nat.reduceBNe, Nat.reduceGT, Int.reduceAdd, Int.reduceSub, Int.reduceMul, Int.reduceNeg, Int.reduceLT, Int.reduceLE, Int.reduceEq, Int.reduceNe, Int.reduceBEq, Int.reduceBNe, Int.reduceToNat, Int.reduceGT, Int.reduceGE, ↓reduceIte, decide_true, decide_false, eq_self, Nat.mul_one, Nat.zero_mul, Nat.one_mul, Int.le_refl, Nat.le_refl, Int.cast_ofNat_Int, hlt2, hi4, hk9, e1, e2, hsl, h16]
       refine hI2 _ ⟨k + 1, by omega⟩ (by simp only; omega) ?_
       simp (decide := true) (maxSteps := 4000000) only [go_sem, Nat.reduceAdd, Nat.reduceSub, Nat.reduceMul, Nat.reduceDiv, Nat.reduceMod, Nat.reduceLT, Nat.reduceLeDiff, Nat.reduceEqDiff, Nat.reduceBEq, Nat.reduceBNe, Nat.reduceGT, Int.reduceAdd, Int.reduceSub, Int.reduceMul, Int.reduceNeg, Int.reduceLT, Int.reduceLE, Int.reduceEq, Int.reduceNe, Int.reduceBEq, Int.reduceBNe, Int.reduceToNat, Int.reduceGT, Int.reduceGE, ↓reduceIte, decide_true, decide_false, eq_self, Nat.mul_one, Nat.zero_mul, Nat.one_mul, Int.le_refl, Nat.le_refl, Int.cast_ofNat_Int, hw3, hsu, cells_self, c36_under]
       first | done | trace_state
      ·have hke : (k : Int) = x + 1 := by omega
       have h24 : (i + 1) * 24 ≤ 140737488355328 := by omega
       have hol := outW_len T g h i
       have hou := outW_succ T g h i
       have hrw : rowW T g h i = .sl (spR g h i k) k true := by
        unfold rowW; rw [hxn, show x.toNat + 1 = k by omega]
       have hk0 : ¬ k = 0 := by omega
       have hsl := spR_len g h i k
       have htk : (spR g h i k).take (k * 2) = spR g h i k := List.take_of_length_le (by rw [hsl]; exact Nat.le_refl _)
       simp (decide := true) (maxSteps := 4000000) only [go_sem, Nat.reduceAdd, Nat.reduceSub, Nat.reduceMul, Nat.reduceDiv, Nat.reduceMod, Nat.reduceLT, Nat.reduceLeDiff, Nat.reduceEqDiff, Nat.reduceBEq, Nat.reduceBNe, Nat.reduceGT, Int.reduceAdd, Int.reduceSub, Int.reduceMul, Int.reduceNeg, Int.reduceLT, Int.reduceLE, Int.reduceEq, Int.reduceNe, Int.reduceBEq, Int.reduceBNe, Int.reduceToNat, Int.reduceGT, Int.reduceGE, ↓reduceIte, decide_true, decide_false, eq_self, Nat.mul_one, Nat.zero_mul, Nat.one_mul, Int.le_refl, Nat.le_refl, Int.cast_ofNat_Int, hlt2]
       refine hQ2 _ _ ?_
       simp (decide := true) (maxSteps := 4000000) only [go_sem, Nat.reduceAdd, Nat.reduceSub, Nat.reduceMul, Nat.reduceDiv, Nat.reduceMod, Nat.reduceLT, Nat.reduceLeDiff, Nat.reduceEqDiff, Nat.reduceBEq, Nat.reduceBNe, Nat.reduceGT, Int.reduceAdd, Int.reduceSub, Int.reduceMul, Int.reduceNeg, Int.reduceLT, Int.reduceLE, Int.reduceEq, Int.reduceNe, Int.reduceBEq, Int.reduceBNe, Int.reduceToNat, Int.reduceGT, Int.reduceGE, ↓reduceIte, decide_true, decide_false, eq_self, Nat.mul_one, Nat.zero_mul, Nat.one_mul, Int.le_refl, Nat.le_refl, Int.cast_ofNat_Int, hk0, hsl, htk, h24, hol, hw1, Nat.zero_mul, List.drop_zero]
       refine hI1 _ ⟨i + 1, by omega⟩ (by simp only; omega) ?_
       simp (decide := true) (maxSteps := 4000000) only [go_sem, Nat.reduceAdd, Nat.reduceSub, Nat.reduceMul, Nat.reduceDiv, Nat.reduceMod, Nat.reduceLT, Nat.reduceLeDiff, Nat.reduceEqDiff, Nat.reduceBEq, Nat.reduceBNe, Nat.reduceGT, Int.reduceAdd, Int.reduceSub, Int.reduceMul, Int.reduceNeg, Int.reduceLT, Int.reduceLE, Int.reduceEq, Int.reduceNe, Int.reduceBEq, Int.reduceBNe, Int.reduceToNat, Int.reduceGT, Int.reduceGE, ↓reduceIte, decide_true, decide_false, eq_self, Nat.mul_one, Nat.zero_mul, Nat.one_mul, Int.le_refl, Nat.le_refl, Int.cast_ofNat_Int, hw1, hou, hrw, cells_self, c36_under]
       first | done | trace_state
    ·have hie : i = T.length := by omega
     subst hie
     have hT0 : ¬ T.length = 0 := by omega
     simp (decide := true) (maxSteps := 4000000) only [go_sem, Nat.reduceAdd, Nat.reduceSub, Nat.reduceMul, Nat.reduceDiv, Nat.reduceMod, Nat.reduceLT, Nat.reduceLeDiff, Nat.reduceEqDiff, Nat.reduceBEq, Nat.reduceBNe, Nat.reduceGT, Int.reduceAdd, Int.reduceSub, Int.reduceMul, Int.reduceNeg, Int.reduceLT, Int.reduceLE, Int.reduceEq, Int.reduceNe, Int.reduceBEq, Int.reduceBNe, Int.reduceToNat, Int.reduceGT, Int.reduceGE, ↓reduceIte, decide_true, decide_false, eq_self, Nat.mul_one, Nat.zero_mul, Nat.one_mul, Int.le_refl, Nat.le_refl, Int.cast_ofNat_Int, hlt]
     refine hQ1 _ _ ?_
     simp (decide := true) (maxSteps := 4000000) only [go_sem, Nat.reduceAdd, Nat.reduceSub, Nat.reduceMul, Nat.reduceDiv, Nat.reduceMod, Nat.reduceLT, Nat.reduceLeDiff, Nat.reduceEqDiff, Nat.reduceBEq, Nat.reduceBNe, Nat.reduceGT, Int.reduceAdd, Int.reduceSub, Int.reduceMul, Int.reduceNeg, Int.reduceLT, Int.reduceLE, Int.reduceEq, Int.reduceNe, Int.reduceBEq, Int.reduceBNe, Int.reduceToNat, Int.reduceGT, Int.reduceGE, ↓reduceIte, decide_true, decide_false, eq_self, Nat.mul_one, Nat.zero_mul, Nat.one_mul, Int.le_refl, Nat.le_refl, Int.cast_ofNat_Int, hT0]
     first | done | trace_state
theorem fSpans_c {T : List Int} {sT : TV} (M : Int) (hT : IsRow ic sT T) (hTl : T.length ≤ 17592186044415) {L : List Rd} {sL : TV} (hL : IsRow Rd.cs sL L) (hLl : L.length ≤ 2932031007402) :
  PCalls Tryd.prog 79 [.agg [sT, .int .i64 M], sL] (.tup [(spansP T M L).1, .int .i64 (spansP T M L).2]) := by
 have hA := fAsked_c M hT hTl hL hLl
 unfold spansP
 by_cases h0 : askedE T M L = 0
 case neg =>
  rw [if_neg h0]
  have b0 : (askedE T M L != 0) = true := by simpa using h0
  refine pcalls_by Tryd.mixes (Spec.one_ok (oneP_ok hA) noSpec_ok) (fn := Tryd.f79) Tryd.func79 rfl (by kernel_rfl) (by show 2 ≤ _; decide) ?_
  simp (decide := true) (maxSteps := 4000000) only [go_sem, Nat.reduceAdd, Nat.reduceSub, Nat.reduceMul, Nat.reduceDiv, Nat.reduceMod, Nat.reduceLT, Nat.reduceLeDiff, Nat.reduceEqDiff, Nat.reduceBEq, Nat.reduceBNe, Nat.reduceGT, Int.reduceAdd, Int.reduceSub, Int.reduceMul, Int.reduceNeg, Int.reduceLT, Int.reduceLE, Int.reduceEq, Int.reduceNe, Int.reduceBEq, Int.reduceBNe, Int.reduceToNat, Int.reduceGT, Int.reduceGE, ↓reduceIte, decide_true, decide_false, eq_self, Nat.mul_one, Nat.zero_mul, Nat.one_mul, Int.le_refl, Nat.le_refl, Int.cast_ofNat_Int, Tryd.f79, b0]
 rw [if_pos h0]
 rw [h0] at hA
 obtain ⟨hset, hL24, hrd⟩ := asked_iff h0
 have hs := hset
 obtain ⟨hT4, hM, hT8⟩ := hs
 obtain ⟨fT, rfl⟩ := hT.ne (by omega)
 rw [ic_ints] at *
 obtain ⟨sM, hrM, hMc⟩ := mir_row hL hL24 (fun x hx => (hrd x hx).2.2.2.2.1)
 have hg1 := fGreat_c fT hset hL hL24 hrd
 have hg2 := fGreat_c fT hset hrM (by rw [List.length_map]; exact hL24) (mir_rd hrd)
 have hgl : PCalls Tryd.prog 79 [.agg [.sl (ints T) T.length fT, .int .i64 M], sL] (if (greatG T M L).2 && (greatG T M (L.map mirR)).2 then .tup [.sl (outW T (greatG T M L).1 (greatG T M (L.map mirR)).1 T.length) T.length false, .int .i64 0] else .tup [.nilSl, .int .i64 4]) := by
  by_cases hsm : sM = sL
  ·subst hsm
   rw [isRow_inj hrM hL] at hg2 ⊢
   exact fSpansW_c (fT := fT) hset (oneP_ok hg1) (by rw [oneP_eq, if_pos rfl]) (by rw [oneP_eq, if_pos rfl]) hA hMc
  ·refine fSpansW_c (fT := fT) hset (many2_ok hg1 hg2) (by rw [manyP_cons, if_pos rfl]) ?_ hA hMc
   rw [manyP_cons, if_neg (by simpa using hsm), manyP_cons, if_pos rfl]
 cases hb : ((greatG T M L).2 && (greatG T M (L.map mirR)).2) with
 | true => rw [hb] at hgl; exact hgl
 | false => rw [hb] at hgl; exact hgl
end Go.Proofs.YtlonlnfenbadbaaDoor

/- Part TFi. -/
namespace Go.Of
open Go Go.RowKit Go.Pm Go.Oc Go.Oh Go.Oc.Ix
def Tr (T : List Int) (M : Int) (e : Nat → Nat → Int) (L : List Rd) : Prop :=
 (∀ i k : Nat, i < T.length → (k : Int) ≤ nthI T i → -M ≤ e i k ∧ e i k ≤ M) ∧ (∀ i : Nat, i < T.length → e i 0 = 0) ∧ ∀ x ∈ L, -x.w ≤ e x.a.toNat x.i.toNat - e x.b.toNat x.j.toNat - x.v ∧ e x.a.toNat x.i.toNat - e x.b.toNat x.j.toNat - x.v ≤ x.w
def Up (T : List Int) (M : Int) (e : Nat → Nat → Int) (f : Nat → Int) : Prop := ∀ i k : Nat, i < T.length → (k : Int) ≤ nthI T i → e i k ≤ f (i * 9 + k) ∧ f (i * 9 + k) ≤ M
theorem nth_mem {T : List Int} {i : Nat} (h : i < T.length) : nthI T i ∈ T := by
 obtain ⟨x, hx⟩ : ∃ x, T[i]? = some x := ⟨_, List.getElem?_eq_getElem h⟩
 rw [nthI_at hx]; exact List.mem_of_getElem? hx
theorem up_init {T : List Int} {M : Int} {e : Nat → Nat → Int} {L : List Rd} (hs : setOk T M) (h : Tr T M e L) : Up T M e (initV T M T.length 0) := by
 intro i k hi hk
 have hx := hs.2.2 _ (nth_mem hi)
 obtain ⟨h1, h2, _⟩ := h
 have e1 : (i * 9 + k) / 9 = i := by omega
 have e2 : (i * 9 + k) % 9 = k := by omega
 unfold initV
 rw [e1, e2]
 by_cases h0 : k = 0
 ·subst h0
  rw [if_neg (by omega), h2 i hi]
  have := hs.2.1
  omega
 ·rw [if_pos ⟨.inl hi, by omega, hk⟩]
  have := h1 i k hi hk
  omega
theorem up_step {T : List Int} {M : Int} {e : Nat → Nat → Int} {L : List Rd} (hs : setOk T M) (h : Tr T M e L) (hr : rdOk T L) {f : Nat → Int} (hf : Up T M e f) {x : Rd} (hx : x ∈ L) : Up T M e (stepR f x) := by
 have r := hr x hx
 have t := h.2.2 x hx
 obtain ⟨a, i, b, j, v, w⟩ := x
 simp only at r t
 obtain ⟨⟨a0, a1⟩, ⟨i0, i1⟩, ⟨b0, b1⟩, ⟨j0, j1⟩, hv, hw⟩ := r
 obtain ⟨ka, rfl⟩ : ∃ n : Nat, a = n := ⟨a.toNat, by omega⟩
 obtain ⟨ki, rfl⟩ : ∃ n : Nat, i = n := ⟨i.toNat, by omega⟩
 obtain ⟨kb, rfl⟩ : ∃ n : Nat, b = n := ⟨b.toNat, by omega⟩
 obtain ⟨kj, rfl⟩ : ∃ n : Nat, j = n := ⟨j.toNat, by omega⟩
 simp only [Int.toNat_natCast] at t
 have hM := hs.2.1
 have fa := hf ka ki (by omega) i1
 have fb := hf kb kj (by omega) j1
 have ea := h.1 ka ki (by omega) i1
 have eb := h.1 kb kj (by omega) j1
 have xa := hs.2.2 _ (nth_mem (T := T) (i := ka) (by omega))
 have xb := hs.2.2 _ (nth_mem (T := T) (i := kb) (by omega))
 rw [stepR_nat]
 generalize hp : ka * 9 + ki = p at *
 generalize hq : kb * 9 + kj = q at *
 have w1 : IntKind.i64.wrap (f q + v) = f q + v := wrap_in (by omega) (by omega)
 have w2 : IntKind.i64.wrap (f q + v + w) = f q + v + w := wrap_in (by omega) (by omega)
 rw [w1, w2]
 have u1 : Up T M e (upd1 f p (min (f p) (f q + v + w))) := by
  intro i k hi hk
  have hx := hs.2.2 _ (nth_mem hi)
  have := hf i k hi hk
  unfold upd1
  by_cases c : i * 9 + k = p
  ·have : i = ka ∧ k = ki := by omega
   obtain ⟨rfl, rfl⟩ := this
   rw [if_pos c]; omega
  ·rw [if_neg c]; exact this
 generalize upd1 f p (min (f p) (f q + v + w)) = f1 at *
 have ga := u1 ka ki (by omega) i1
 have gb := u1 kb kj (by omega) j1
 rw [hp] at ga
 rw [hq] at gb
 have w3 : IntKind.i64.wrap (f1 p - v) = f1 p - v := wrap_in (by omega) (by omega)
 have w4 : IntKind.i64.wrap (f1 p - v + w) = f1 p - v + w := wrap_in (by omega) (by omega)
 rw [w3, w4]
 intro i k hi hk
 have hx := hs.2.2 _ (nth_mem hi)
 have := u1 i k hi hk
 unfold upd1
 by_cases c : i * 9 + k = q
 ·have : i = kb ∧ k = kj := by omega
  obtain ⟨rfl, rfl⟩ := this
  rw [if_pos c]; omega
 ·rw [if_neg c]; exact this
theorem up_fold {T : List Int} {M : Int} {e : Nat → Nat → Int} {L : List Rd} (hs : setOk T M) (h : Tr T M e L) (hr : rdOk T L) : ∀ (R : List Rd), (∀ x ∈ R, x ∈ L) → ∀ {f : Nat → Int}, Up T M e f → Up T M e (R.foldl stepR f)
 | [], _, f, hf => hf
 | x :: R, hR, f, hf => up_fold hs h hr R (fun y hy => hR y (List.mem_cons_of_mem _ hy)) (up_step hs h hr hf (hR x List.mem_cons_self))
theorem up_loop {T : List Int} {M : Int} {e : Nat → Nat → Int} {L : List Rd} (hs : setOk T M) (h : Tr T M e L) (hr : rdOk T L) : ∀ (n : Nat) {f : Nat → Int}, Up T M e f → Up T M e (gLoop T M L n f).1
 | 0, f, hf => hf
 | n + 1, f, hf => by
  have h1 := up_fold hs h hr L (fun _ h => h) hf
  unfold gLoop
  split
  ·exact h1
  ·split
   ·exact h1
   ·exact up_loop hs h hr n h1
theorem up_great {T : List Int} {M : Int} {e : Nat → Nat → Int} {L : List Rd} (hs : setOk T M) (h : Tr T M e L) (hr : rdOk T L) : Up T M e (greatG T M L).1 := up_loop hs h hr _ (up_init hs h)
theorem tr_mir {T : List Int} {M : Int} {e : Nat → Nat → Int} {L : List Rd} (h : Tr T M e L) : Tr T M (fun i k => -e i k) (L.map mirR) := by
 refine ⟨fun i k hi hk => by have := h.1 i k hi hk; simp only; omega, fun i hi => by have := h.2.1 i hi; simp only; omega, fun x hx => ?_⟩
 obtain ⟨y, hy, rfl⟩ := List.mem_map.1 hx
 have := h.2.2 y hy
 unfold mirR
 simp only
 omega
theorem tr_of {T : List Int} {M : Int} {L : List Rd} {E : List (List Int)} (hset : setOk T M) (hrd : rdOk T L) (hEl : E.length = T.length) (hro : rowsTo T M E E.length = true) (hh : L.all (holdsB E) = true) : Tr T M (fun i k => eAt E i k) L := by
 have hrow : ∀ i : Nat, i < T.length → ∃ r, E[i]? = some r ∧ (r.length : Int) = nthI T i + 1 ∧ nthI r 0 = 0 ∧ (∀ x ∈ r, -M ≤ x ∧ x ≤ M) ∧ ∀ k : Nat, eAt E i k = nthI r k := fun i hi => by
  obtain ⟨r, hr⟩ : ∃ r, E[i]? = some r := ⟨_, List.getElem?_eq_getElem (by omega)⟩
  have := rowOk_iff (rowsTo_at hro (by omega) hr)
  refine ⟨r, hr, this.1, this.2.1, this.2.2, fun k => ?_⟩
  unfold eAt
  rw [Int.toNat_natCast, List.getD_eq_getElem?_getD, hr]; rfl
 have hb : ∀ i k : Nat, i < T.length → (k : Int) ≤ nthI T i → -M ≤ eAt E i k ∧ eAt E i k ≤ M := fun i k hi hk => by
  obtain ⟨r, hr, h1, h2, h3, h4⟩ := hrow i hi
  obtain ⟨x, hx⟩ : ∃ x, r[k]? = some x := ⟨_, List.getElem?_eq_getElem (by omega)⟩
  rw [h4 k, nthI_at hx]
  exact h3 x (List.mem_of_getElem? hx)
 refine ⟨hb, fun i hi => ?_, fun x hx => ?_⟩
 ·obtain ⟨r, hr, h1, h2, h3, h4⟩ := hrow i hi
  show eAt E i (0 : Nat) = 0
  rw [h4 0]; exact h2
 ·have h := List.all_eq_true.1 hh x hx
  have r := hrd x hx
  obtain ⟨a, i, b, j, v, w⟩ := x
  simp only at r
  obtain ⟨⟨a0, a1⟩, ⟨i0, i1⟩, ⟨b0, b1⟩, ⟨j0, j1⟩, hv, hw⟩ := r
  obtain ⟨ka, rfl⟩ : ∃ n : Nat, a = n := ⟨a.toNat, by omega⟩
  obtain ⟨ki, rfl⟩ : ∃ n : Nat, i = n := ⟨i.toNat, by omega⟩
  obtain ⟨kb, rfl⟩ : ∃ n : Nat, b = n := ⟨b.toNat, by omega⟩
  obtain ⟨kj, rfl⟩ : ∃ n : Nat, j = n := ⟨j.toNat, by omega⟩
  have ea := hb ka ki (by omega) i1
  have eb := hb kb kj (by omega) j1
  have hM := hset.2.1
  unfold holdsB at h
  simp only at h
  rw [wrap_in (n := eAt E ka ki - eAt E kb kj) (by omega) (by omega), wrap_in (n := eAt E ka ki - eAt E kb kj - v) (by omega) (by omega), wrap_in (n := 0 - w) (by omega) (by omega)] at h
  have h := inB_iff.1 h
  simp only [Int.toNat_natCast]
  omega
end Go.Of
namespace Go.Proofs.YtlonlnfenbadbaaDoor
open Go.RowKit Go.Pm Go.Oc Go.Oc.Ix Ix Go.Of Go.Ow
set_option maxRecDepth 100000
set_option linter.unusedVariables false
set_option maxHeartbeats 4000000

theorem fErr_c {T : List Int} {sT : TV} (M : Int) (hT : IsRow ic sT T) (hTl : T.length ≤ 17592186044415) {L : List Rd} {sL : TV} (hL : IsRow Rd.cs sL L) (hLl : L.length ≤ 2932031007402) {E : List (List Int)} {sE : TV} (hE : RowsI sE E) (hElen : E.length ≤ 5864062014806) (turn : Int) :
  ∃ (er lo hi : Int) (ok : Bool), PCalls Tryd.prog 26 [.agg [sT, .int .i64 M, sL, sE], .int .i64 turn] (.tup [.int .i64 er, .agg [.int .i64 lo, .int .i64 hi], .bool ok]) ∧ (ok = true → lo ≤ er ∧ er ≤ hi ∧ -100000 ≤ lo ∧ hi ≤ 100000 ∧ -100000 ≤ er ∧ er ≤ 100000) := by
 have h1 := fTruth_c M hT hTl hL hLl hE hElen
 have h2 := fSpans_c M hT hTl hL hLl
 have hpc := RowsI_pc hE
 by_cases hgood : (truthP T M L E).2 = 0 ∧ (spansP T M L).2 = 0 ∧ (truthP T M L E).1 = true
 case neg =>
  refine ⟨0, 0, 0, false, ?_, fun h => by cases h⟩
  obtain ⟨⟨is, e⟩, ht⟩ : ∃ t, truthP T M L E = t := ⟨_, rfl⟩
  obtain ⟨⟨s, f⟩, hs⟩ : ∃ t, spansP T M L = t := ⟨_, rfl⟩
  rw [ht] at h1 hgood
  rw [hs] at h2 hgood
  simp only at h1 h2 hgood
  refine pcalls_by Tryd.mixes (Spec.gdt_ok (Spec.one_ok (oneP_ok h1) (Spec.one_ok (oneP_ok h2) noSpec_ok))) (fn := Tryd.f26) Tryd.func26 rfl (by kernel_rfl) (by show 2 ≤ _; decide) ?_
  by_cases he : e = 0
  ·subst he
   by_cases hf : f = 0
   ·subst hf
    cases is with
    | true => exact absurd ⟨rfl, rfl, rfl⟩ hgood
    | false =>
     simp (decide := true) (implicitDefEqProofs := false) (maxSteps := 4000000) only [go_sem, Nat.reduceAdd, Nat.reduceSub, Nat.reduceMul, Nat.reduceDiv, Nat.reduceMod, Nat.reduceLT, Nat.reduceLeDiff, Nat.reduceEqDiff, Nat.reduceBEq, Nat.reduceBNe, Nat.reduceGT, Int.reduceAdd, Int.reduceSub, Int.reduceMul, Int.reduceNeg, Int.reduceLT, Int.reduceLE, Int.reduceEq, Int.reduceNe, Int.reduceBEq, Int.reduceBNe, Int.reduceToNat, Int.reduceGT, Int.reduceGE, ↓reduceIte, decide_true, decide_false, eq_self, Nat.mul_one, Nat.zero_mul, Nat.one_mul, Int.le_refl, Nat.le_refl, Int.cast_ofNat_Int, Tryd.f26, hpc, bne_self_eq_false, Bool.false_or]
   ·have b2 : (f != 0) = true := by simpa using hf
    simp (decide := true) (implicitDefEqProofs := false) (maxSteps := 4000000) only [go_sem, Nat.reduceAdd, Nat.reduceSub, Nat.reduceMul, Nat.reduceDiv, Nat.reduceMod, Nat.reduceLT, Nat.reduceLeDiff, Nat.reduceEqDiff, Nat.reduceBEq, Nat.reduceBNe, Nat.reduceGT, Int.reduceAdd, Int.reduceSub, Int.reduceMul, Int.reduceNeg, Int.reduceLT, Int.reduceLE, Int.reduceEq, Int.reduceNe, Int.reduceBEq, Int.reduceBNe, Int.reduceToNat, Int.reduceGT, Int.reduceGE, ↓reduceIte, decide_true, decide_false, eq_self, Nat.mul_one, Nat.zero_mul, Nat.one_mul, Int.le_refl, Nat.le_refl, Int.cast_ofNat_Int, Tryd.f26, hpc, bne_self_eq_false, b2, Bool.false_or]
  ·have b1 : (e != 0) = true := by simpa using he
   simp (decide := true) (implicitDefEqProofs := false) (maxSteps := 4000000) only [go_sem, Nat.reduceAdd, Nat.reduceSub, Nat.reduceMul, Nat.reduceDiv, Nat.reduceMod, Nat.reduceLT, Nat.reduceLeDiff, Nat.reduceEqDiff, Nat.reduceBEq, Nat.reduceBNe, Nat.reduceGT, Int.reduceAdd, Int.reduceSub, Int.reduceMul, Int.reduceNeg, Int.reduceLT, Int.reduceLE, Int.reduceEq, Int.reduceNe, Int.reduceBEq, Int.reduceBNe, Int.reduceToNat, Int.reduceGT, Int.reduceGE, ↓reduceIte, decide_true, decide_false, eq_self, Nat.mul_one, Nat.zero_mul, Nat.one_mul, Int.le_refl, Nat.le_refl, Int.cast_ofNat_Int, Tryd.f26, hpc, b1, Bool.false_or]
 obtain ⟨g1, g2, g3⟩ := hgood
 have hask : askedE T M L = 0 := by
  by_cases h0 : askedE T M L = 0
  ·exact h0
  ·unfold truthP at g1; rw [if_neg h0] at g1; exact absurd g1 h0
 obtain ⟨hset, hL24, hrd⟩ := asked_iff hask
 have hs := hset
 obtain ⟨hT4, hM, hT8⟩ := hs
 have hEl : E.length = T.length := by
  by_cases h0 : E.length = T.length
  ·exact h0
  ·unfold truthP at g3; rw [if_pos hask, if_neg h0] at g3; cases g3
 have hro : rowsTo T M E E.length = true := by
  cases h0 : rowsTo T M E E.length with
  | true => rfl
  | false => unfold truthP at g3; rw [if_pos hask, if_pos hEl, h0] at g3; cases g3
 have hall : L.all (holdsB E) = true := by
  unfold truthP at g3; rw [if_pos hask, if_pos hEl, hro] at g3; exact g3
 have htr := tr_of hset hrd hEl hro hall
 have u1 := up_great hset htr hrd
 have u2 := up_great hset (tr_mir htr) (mir_rd hrd)
 have hsp : spansP T M L = (.sl (outW T (greatG T M L).1 (greatG T M (L.map mirR)).1 T.length) T.length false, 0) := by
  unfold spansP at g2 ⊢
  rw [if_pos hask] at g2 ⊢
  by_cases hb : ((greatG T M L).2 && (greatG T M (L.map mirR)).2) = true
  ·rw [if_pos hb]
  ·rw [if_neg hb] at g2; cases g2
 have htp : truthP T M L E = (true, 0) := by rw [← g1, ← g3]
 rw [htp] at h1
 rw [hsp] at h2
 generalize (greatG T M L).1 = g at *
 generalize (greatG T M (L.map mirR)).1 = h at *
 rcases hE with ⟨_, rfl⟩ | ⟨cs, f, rfl, hcs, hrow⟩
 ·simp at hEl; omega
 obtain ⟨r, hr⟩ := get_lt (l := E) (k := 0) (by omega)
 obtain ⟨c, hc⟩ := get_lt (l := cs) (k := 0) (by omega)
 obtain ⟨x, hx⟩ := get_lt (l := T) (k := 0) (by omega)
 have hx8 := hT8 x (List.mem_of_getElem? hx)
 have hxn : nthI T ((0 : Nat) : Int) = x := nthI_at hx
 have hok := rowOk_iff (rowsTo_at hro (by omega) hr)
 rw [hxn] at hok
 obtain ⟨fr, rfl⟩ := (hrow 0 c r hc hr).1.ne (by omega)
 rw [ic_ints] at hc
 have d1 : (0 : Int) < x + 1 ∧ x + 1 ≤ 9223372036854775807 := by omega
 have m1 := Int.emod_nonneg turn (show x + 1 ≠ 0 by omega)
 have m2 := Int.emod_lt_of_pos turn (show 0 < x + 1 by omega)
 obtain ⟨k, hk⟩ : ∃ k : Nat, turn % (x + 1) = k := ⟨(turn % (x + 1)).toNat, by omega⟩
 have hkx : (k : Int) ≤ x := by omega
 obtain ⟨y, hy⟩ := get_lt (l := r) (k := k) (by omega)
 have hdy := ints_at hy
 rw [Nat.mul_one] at hdy
 have ey : eAt E ((0 : Nat) : Int) k = y := by
  unfold eAt; rw [Int.toNat_natCast, List.getD_eq_getElem?_getD, hr]; exact nthI_at hy
 have v1 := u1 0 k (by omega) (by rw [hxn]; exact hkx)
 have v2 := u2 0 k (by omega) (by rw [hxn]; exact hkx)
 have v3 := htr.1 0 k (by omega) (by rw [hxn]; exact hkx)
 simp only [ey, Nat.zero_mul, Nat.zero_add] at v1 v2 v3
 have hwk : IntKind.i64.wrap (0 - h k) = -h k := by rw [wrap_in (by omega) (by omega)]; omega
 refine ⟨y, -h k, g k, true, ?_, fun _ => by omega⟩
 obtain ⟨N, hN⟩ : ∃ N, T.length = N + 1 := ⟨T.length - 1, by omega⟩
 have hrw : rowW T g h 0 = .sl (spR g h 0 (x.toNat + 1)) (x.toNat + 1) true := by
  unfold rowW; rw [show ((0 : Nat) : Int) = (0 : Nat) from rfl, hxn]
 have hoc := outW_cons T g h N
 rw [hrw] at hoc
 rw [hN, hoc] at h2
 have hspr := spR_at g h 0 (k := k) (n := x.toNat + 1) (by omega)
 simp only [Nat.zero_mul, Nat.zero_add, hwk] at hspr
 obtain ⟨cs', rfl⟩ : ∃ cs', cs = .sl (ints r) r.length fr :: cs' := by
  cases cs with
  | nil => simp at hc
  | cons c cs => simp at hc; subst hc; exact ⟨cs, rfl⟩
 have hEN : E.length = N + 1 := by omega
 have hrl : (r.length : Int) = x + 1 := hok.1
 have hxt : ((x.toNat + 1 : Nat) : Int) = x + 1 := by omega
 refine pcalls_by Tryd.mixes (Spec.gdt_ok (Spec.one_ok (oneP_ok h1) (Spec.one_ok (oneP_ok h2) Sx.spH14_ok))) (fn := Tryd.f26) Tryd.func26 rfl (by kernel_rfl) (by show 2 ≤ _; decide) ?_
 have b1 : (((N + 1 : Nat) : Int) == 0) = false := beq_int_f (by omega)
 have b2 : ((x + 1) == 0) = false := beq_int_f (by omega)
 have b3 : (x + 1 != x + 1) = false := by simp
 have hn0 : (0 : Int) < ((N + 1 : Nat) : Int) := by omega
 have hkr : (k : Int) < x + 1 := by omega
 simp (decide := true) (implicitDefEqProofs := false) (maxSteps := 4000000) only [go_sem, Nat.reduceAdd, Nat.reduceSub, Nat.reduceMul, Nat.reduceDiv, Nat.reduceMod, Nat.reduceLT, Nat.reduceLeDiff, Nat.reduceEqDiff, Nat.reduceBEq, Nat.reduceBNe, Nat.reduceGT, Int.reduceAdd, Int.reduceSub, Int.reduceMul, Int.reduceNeg, Int.reduceLT, Int.reduceLE, Int.reduceEq, Int.reduceNe, Int.reduceBEq, Int.reduceBNe, Int.reduceToNat, Int.reduceGT, Int.reduceGE, ↓reduceIte, decide_true, decide_false, eq_self, Nat.mul_one, Nat.zero_mul, Nat.one_mul, Int.le_refl, Nat.le_refl, Int.cast_ofNat_Int, Tryd.f26, bne_self_eq_false, hEN, hrl, hxt, b1, b2, b3, hn0, d1, hk, hkr, hdy, hspr]
 first | done | trace_state
end Go.Proofs.YtlonlnfenbadbaaDoor

/- Part TFj. -/
namespace Go.Proofs.YtlonlnfenbadbaaDoor
open Go.RowKit Go.Pm Go.Oc Go.Oc.Lv Go.Oh Go.Os
set_option maxRecDepth 100000
set_option linter.unusedVariables false
set_option maxHeartbeats 4000000

theorem tilt_bdF {v : Vial} {l : List Rd} (h : (tiltR v l).e = 0) : -5000000 ≤ (tiltR v l).tilt.lo ∧ (tiltR v l).tilt.lo ≤ 5000000 ∧ -5000000 ≤ (tiltR v l).tilt.hi ∧ (tiltR v l).tilt.hi ≤ 5000000 := by
 unfold tiltR at h ⊢
 by_cases hk : asked v l = 0
 ·rw [if_pos hk] at h ⊢
  obtain ⟨hv, hr⟩ := asked_zero hk
  cases hi : (tilts v (l.map mid)).is with
  | false => rw [hi] at h; simp at h
  | true => simp only [if_true]; exact tilts_bound hv (mksOk_mid hv hr)
 ·rw [if_neg hk] at h; exact absurd h hk
noncomputable def spFt : Pm.Spec := (((Sx.spH14.one 25 Lv.glClicks).one 22 Lv.glCan).one 23 Lv.glTilt).one 19 txGround
@[go_sem] theorem spFt_p (f : FuncId) (xs : List TV) : spFt.p f xs = Pm.Spec.p ((((Sx.spH14.one 25 Lv.glClicks).one 22 Lv.glCan).one 23 Lv.glTilt).one 19 txGround) f xs := rfl
@[go_sem] theorem spFt_h (f : FuncId) (ps : List PV) (hl : List PO) : spFt.h f ps hl = Pm.Spec.h ((((Sx.spH14.one 25 Lv.glClicks).one 22 Lv.glCan).one 23 Lv.glTilt).one 19 txGround) f ps hl := rfl
@[go_sem] theorem spFt_y (Y : Pm.YS) (f : FuncId) (ps : List PV) (hl : List PO) : spFt.y Y f ps hl = Pm.Spec.y ((((Sx.spH14.one 25 Lv.glClicks).one 22 Lv.glCan).one 23 Lv.glTilt).one 19 txGround) Y f ps hl := rfl
@[go_sem] theorem spFt_fz (f : FuncId) : spFt.fz f = Pm.Spec.fz ((((Sx.spH14.one 25 Lv.glClicks).one 22 Lv.glCan).one 23 Lv.glTilt).one 19 txGround) f := rfl
@[go_sem] theorem spFt_fr (f : FuncId) : spFt.fr f = Pm.Spec.fr ((((Sx.spH14.one 25 Lv.glClicks).one 22 Lv.glCan).one 23 Lv.glTilt).one 19 txGround) f := rfl
@[go_sem] theorem spFt_yf (f : FuncId) : spFt.yf f = Pm.Spec.yf ((((Sx.spH14.one 25 Lv.glClicks).one 22 Lv.glCan).one 23 Lv.glTilt).one 19 txGround) f := rfl
@[go_sem] theorem spFt_gd : spFt.gd = Pm.Spec.gd ((((Sx.spH14.one 25 Lv.glClicks).one 22 Lv.glCan).one 23 Lv.glTilt).one 19 txGround) := rfl
@[go_sem] theorem spFt_mu (t : TypeId) : spFt.mu t = Pm.Spec.mu ((((Sx.spH14.one 25 Lv.glClicks).one 22 Lv.glCan).one 23 Lv.glTilt).one 19 txGround) t := rfl
@[go_sem] theorem spFt_nf (t : TypeId) : spFt.nf t = Pm.Spec.nf ((((Sx.spH14.one 25 Lv.glClicks).one 22 Lv.glCan).one 23 Lv.glTilt).one 19 txGround) t := rfl
theorem spFt_ok : SpecOk Tryd.prog spFt := Spec.one_ok txGround_ok (Spec.one_ok Lv.glTilt_ok (Spec.one_ok Lv.glCan_ok (Spec.one_ok Lv.glClicks_ok Sx.spH14_ok)))
theorem TopFooted_c (v : Vial) {l : List Rd} {s : TV} (hs : IsRow Rd.cs s l) (hl : l.length ≤ 5864062014806) (tv tz tt wo bo : Int) {T : List Int} {sT : TV} (M : Int) (hT : IsRow Ix.ic sT T) (hTl : T.length ≤ 17592186044415) {L : List Of.Rd} {sL : TV} (hL : IsRow Of.Rd.cs sL L) (hLl : L.length ≤ 2932031007402) {E : List (List Int)} {sE : TV} (hE : Of.RowsI sE E) (hElen : E.length ≤ 5864062014806) (n : Int) :
  PCalls Tryd.prog 4 [.agg (v.cs ++ [s, .int .i64 tv, .int .i64 tz, .int .i64 tt, .int .i64 wo, .int .i64 bo]), .agg [sT, .int .i64 M, sL, sE], .int .i64 n] (.bool true) := by
 obtain ⟨er, lo, hi, ok, hErr, hEb⟩ := fErr_c M hT hTl hL hLl hE hElen n
 have hpE := Of.RowsI_pc hE
 have key := Lv.can_tilt v l tv tz tt
 obtain ⟨⟨cb, ce⟩, hc⟩ : ∃ c, Lv.canP v l tv tz tt = c := ⟨_, rfl⟩
 obtain ⟨⟨⟨t0, t1⟩, ⟨z0, z1⟩, te⟩, ht⟩ : ∃ t, tiltR v l = t := ⟨_, rfl⟩
 rw [hc, ht] at key
 have rR : rowL Go.Oc.Lv.unRds s = some l := by
  rcases hs with ⟨rfl, rfl⟩ | ⟨full, rfl⟩
  ·rfl
  ·simp only [rowL, Go.Oc.Lv.unRds_eq, if_true]
 unfold rowL at rR
 have ev : Vial.mk v.marks v.l0 v.l1 v.v0 v.v1 v.z0 v.z1 v.wr = v := rfl
 refine pcalls_by Tryd.mixes (Spec.gdt_ok (Spec.one_ok (oneP_ok hErr) spFt_ok)) (fn := Tryd.f4) Tryd.func4 rfl (by kernel_rfl) (by show 3 ≤ _; decide) ?_
 by_cases c1 : ce = 0
 case neg =>
  have b1 : (ce != 0) = true := by simpa using c1
  simp (decide := true) (implicitDefEqProofs := false) (maxSteps := 4000000) only [go_sem, Nat.reduceAdd, Nat.reduceSub, Nat.reduceMul, Nat.reduceDiv, Nat.reduceMod, Nat.reduceLT, Nat.reduceLeDiff, Nat.reduceEqDiff, Nat.reduceBEq, Nat.reduceBNe, Nat.reduceGT, Int.reduceAdd, Int.reduceSub, Int.reduceMul, Int.reduceNeg, Int.reduceLT, Int.reduceLE, Int.reduceEq, Int.reduceNe, Int.reduceBEq, Int.reduceBNe, Int.reduceToNat, Int.reduceGT, Int.reduceGE, ↓reduceIte, decide_true, decide_false, eq_self, Nat.mul_one, Nat.zero_mul, Nat.one_mul, Int.le_refl, Nat.le_refl, Int.cast_ofNat_Int, Tryd.f4, Vial.cs, rR, hl, ev, hc, ht, TE.t, Span.t, Span.cs, b1, hpE, Bool.true_or]
 subst c1
 have b1 : ((0 : Int) != 0) = false := rfl
 cases cb with
 | false =>
  rcases key with ⟨h1, _⟩ | ⟨_, hte, _⟩ | ⟨_, hte, _⟩
  ·exact absurd rfl h1
  ·have hte : te = 33 := hte
   subst hte
   simp (decide := true) (implicitDefEqProofs := false) (maxSteps := 4000000) only [go_sem, Nat.reduceAdd, Nat.reduceSub, Nat.reduceMul, Nat.reduceDiv, Nat.reduceMod, Nat.reduceLT, Nat.reduceLeDiff, Nat.reduceEqDiff, Nat.reduceBEq, Nat.reduceBNe, Nat.reduceGT, Int.reduceAdd, Int.reduceSub, Int.reduceMul, Int.reduceNeg, Int.reduceLT, Int.reduceLE, Int.reduceEq, Int.reduceNe, Int.reduceBEq, Int.reduceBNe, Int.reduceToNat, Int.reduceGT, Int.reduceGE, ↓reduceIte, decide_true, decide_false, eq_self, Nat.mul_one, Nat.zero_mul, Nat.one_mul, Int.le_refl, Nat.le_refl, Int.cast_ofNat_Int, Tryd.f4, Vial.cs, rR, hl, ev, hc, ht, TE.t, Span.t, Span.cs, b1, hpE]
  ·have hte : te = 0 := hte
   subst hte
   simp (decide := true) (implicitDefEqProofs := false) (maxSteps := 4000000) only [go_sem, Nat.reduceAdd, Nat.reduceSub, Nat.reduceMul, Nat.reduceDiv, Nat.reduceMod, Nat.reduceLT, Nat.reduceLeDiff, Nat.reduceEqDiff, Nat.reduceBEq, Nat.reduceBNe, Nat.reduceGT, Int.reduceAdd, Int.reduceSub, Int.reduceMul, Int.reduceNeg, Int.reduceLT, Int.reduceLE, Int.reduceEq, Int.reduceNe, Int.reduceBEq, Int.reduceBNe, Int.reduceToNat, Int.reduceGT, Int.reduceGE, ↓reduceIte, decide_true, decide_false, eq_self, Nat.mul_one, Nat.zero_mul, Nat.one_mul, Int.le_refl, Nat.le_refl, Int.cast_ofNat_Int, Tryd.f4, Vial.cs, rR, hl, ev, hc, ht, TE.t, Span.t, Span.cs, b1, hpE]
 | true =>
  rcases key with ⟨h1, _⟩ | ⟨_, _, h1, _⟩ | ⟨_, hte, hin⟩
  ·exact absurd rfl h1
  ·cases h1
  ·have hte : te = 0 := hte
   subst hte
   obtain ⟨⟨g0, g1⟩, _⟩ := hin rfl
   have g0 : t0 ≤ tt := g0
   have g1 : tt ≤ t1 := g1
   have tb := tilt_bdF (v := v) (l := l) (by rw [ht])
   rw [ht] at tb
   have tb : -5000000 ≤ t0 ∧ t0 ≤ 5000000 ∧ -5000000 ≤ t1 ∧ t1 ≤ 5000000 := tb
   have hin1 : inB tt t0 t1 = true := inB_iff.2 ⟨g0, g1⟩
   have m1 := Int.emod_nonneg wo (show (100 : Int) ≠ 0 by decide)
   have m2 := Int.emod_lt_of_pos wo (show (0 : Int) < 100 by decide)
   have m3 := Int.emod_nonneg bo (show (100000 : Int) ≠ 0 by decide)
   have m4 := Int.emod_lt_of_pos bo (show (0 : Int) < 100000 by decide)
   have d1 : (0 : Int) < 100 ∧ (100 : Int) ≤ 9223372036854775807 := by decide
   have d2 : (0 : Int) < 100000 ∧ (100000 : Int) ≤ 9223372036854775807 := by decide
   have w10 : IntKind.i64.wrap (1 + wo % 100) = 1 + wo % 100 := wrap_in (by omega) (by omega)
   obtain ⟨W, hW⟩ : ∃ W, 1 + wo % 100 = W := ⟨_, rfl⟩
   obtain ⟨B, hB⟩ : ∃ B, bo % 100000 = B := ⟨_, rfl⟩
   rw [hW] at w10
   rw [hB] at m3 m4
   have law := clicks_law ⟨t0, t1⟩ W B
   obtain ⟨⟨c, e⟩, hcl⟩ : ∃ r, Lv.clicksP ⟨t0, t1⟩ W B = r := ⟨_, rfl⟩
   rw [hcl] at law
   simp (decide := true) (implicitDefEqProofs := false) (maxSteps := 4000000) only [go_sem, Nat.reduceAdd, Nat.reduceSub, Nat.reduceMul, Nat.reduceDiv, Nat.reduceMod, Nat.reduceLT, Nat.reduceLeDiff, Nat.reduceEqDiff, Nat.reduceBEq, Nat.reduceBNe, Nat.reduceGT, Int.reduceAdd, Int.reduceSub, Int.reduceMul, Int.reduceNeg, Int.reduceLT, Int.reduceLE, Int.reduceEq, Int.reduceNe, Int.reduceBEq, Int.reduceBNe, Int.reduceToNat, Int.reduceGT, Int.reduceGE, ↓reduceIte, decide_true, decide_false, eq_self, Nat.mul_one, Nat.zero_mul, Nat.one_mul, Int.le_refl, Nat.le_refl, Int.cast_ofNat_Int, Tryd.f4, Vial.cs, rR, hl, ev, hc, ht, TE.t, Span.t, Span.cs, b1, hpE, hin1, d1, d2, hW, w10, hB, hcl]
   rcases law with h7 | ⟨_, _, _, ⟨h4, _⟩ | ⟨he, hbd, _⟩⟩
   ·cases h7
    simp (decide := true) (implicitDefEqProofs := false) (maxSteps := 4000000) only [go_sem, Nat.reduceAdd, Nat.reduceSub, Nat.reduceMul, Nat.reduceDiv, Nat.reduceMod, Nat.reduceLT, Nat.reduceLeDiff, Nat.reduceEqDiff, Nat.reduceBEq, Nat.reduceBNe, Nat.reduceGT, Int.reduceAdd, Int.reduceSub, Int.reduceMul, Int.reduceNeg, Int.reduceLT, Int.reduceLE, Int.reduceEq, Int.reduceNe, Int.reduceBEq, Int.reduceBNe, Int.reduceToNat, Int.reduceGT, Int.reduceGE, ↓reduceIte, decide_true, decide_false, eq_self, Nat.mul_one, Nat.zero_mul, Nat.one_mul, Int.le_refl, Nat.le_refl, Int.cast_ofNat_Int]
   ·cases h4
    simp (decide := true) (implicitDefEqProofs := false) (maxSteps := 4000000) only [go_sem, Nat.reduceAdd, Nat.reduceSub, Nat.reduceMul, Nat.reduceDiv, Nat.reduceMod, Nat.reduceLT, Nat.reduceLeDiff, Nat.reduceEqDiff, Nat.reduceBEq, Nat.reduceBNe, Nat.reduceGT, Int.reduceAdd, Int.reduceSub, Int.reduceMul, Int.reduceNeg, Int.reduceLT, Int.reduceLE, Int.reduceEq, Int.reduceNe, Int.reduceBEq, Int.reduceBNe, Int.reduceToNat, Int.reduceGT, Int.reduceGE, ↓reduceIte, decide_true, decide_false, eq_self, Nat.mul_one, Nat.zero_mul, Nat.one_mul, Int.le_refl, Nat.le_refl, Int.cast_ofNat_Int]
   ·have he : e = 0 := he
    subst he
    have hbd : -B ≤ t0 + c * W ∧ t1 + c * W ≤ B := hbd
    obtain ⟨P, hP⟩ : ∃ P, c * W = P := ⟨_, rfl⟩
    rw [hP] at hbd
    have x4 : IntKind.i64.wrap P = P := wrap_in (by omega) (by omega)
    have x5 : IntKind.i64.wrap (tt + P) = tt + P := wrap_in (by omega) (by omega)
    obtain ⟨D, hD⟩ : ∃ D, tt + P = D := ⟨_, rfl⟩
    rw [hD] at x5
    have hDb : -B ≤ D ∧ D ≤ B := by omega
    have wD : IntKind.i64.wrap (0 - D) = -D := by rw [wrap_in (by omega) (by omega)]; omega
    have hno : ¬ (max D (-D) > B) := by omega
    cases ok with
    | false => simp (decide := true) (implicitDefEqProofs := false) (maxSteps := 4000000) only [go_sem, Nat.reduceAdd, Nat.reduceSub, Nat.reduceMul, Nat.reduceDiv, Nat.reduceMod, Nat.reduceLT, Nat.reduceLeDiff, Nat.reduceEqDiff, Nat.reduceBEq, Nat.reduceBNe, Nat.reduceGT, Int.reduceAdd, Int.reduceSub, Int.reduceMul, Int.reduceNeg, Int.reduceLT, Int.reduceLE, Int.reduceEq, Int.reduceNe, Int.reduceBEq, Int.reduceBNe, Int.reduceToNat, Int.reduceGT, Int.reduceGE, ↓reduceIte, decide_true, decide_false, eq_self, Nat.mul_one, Nat.zero_mul, Nat.one_mul, Int.le_refl, Nat.le_refl, Int.cast_ofNat_Int, b1, hP, x4, x5, hD, wD, hno]
    | true =>
     obtain ⟨k1, k2, k3, k4, k5, k6⟩ := hEb rfl
     have y1 : IntKind.i64.wrap (D + er) = D + er := wrap_in (by omega) (by omega)
     have y2 : IntKind.i64.wrap (0 - (D + er)) = -(D + er) := by rw [wrap_in (by omega) (by omega)]; omega
     have y3 : IntKind.i64.wrap (0 - lo) = -lo := by rw [wrap_in (by omega) (by omega)]; omega
     have y4 : IntKind.i64.wrap (0 - hi) = -hi := by rw [wrap_in (by omega) (by omega)]; omega
     have y5 : IntKind.i64.wrap (B + max (max lo (-lo)) (max hi (-hi))) = B + max (max lo (-lo)) (max hi (-hi)) := wrap_in (by omega) (by omega)
     have hle : max (D + er) (-(D + er)) ≤ B + max (max lo (-lo)) (max hi (-hi)) := by omega
     simp (decide := true) (implicitDefEqProofs := false) (maxSteps := 4000000) only [go_sem, Nat.reduceAdd, Nat.reduceSub, Nat.reduceMul, Nat.reduceDiv, Nat.reduceMod, Nat.reduceLT, Nat.reduceLeDiff, Nat.reduceEqDiff, Nat.reduceBEq, Nat.reduceBNe, Nat.reduceGT, Int.reduceAdd, Int.reduceSub, Int.reduceMul, Int.reduceNeg, Int.reduceLT, Int.reduceLE, Int.reduceEq, Int.reduceNe, Int.reduceBEq, Int.reduceBNe, Int.reduceToNat, Int.reduceGT, Int.reduceGE, ↓reduceIte, decide_true, decide_false, eq_self, Nat.mul_one, Nat.zero_mul, Nat.one_mul, Int.le_refl, Nat.le_refl, Int.cast_ofNat_Int, b1, hP, x4, x5, hD, wD, hno, y1, y2, y3, y4, y5, hle]
     first | done | trace_state
end Go.Proofs.YtlonlnfenbadbaaDoor

/- Part Tx0. -/
namespace Go.Proofs.YtlonlnfenbadbaaDoor
open Go.RowKit Go.Pm Go.Oc Go.Oh Go.Os
set_option maxRecDepth 100000
set_option linter.unusedVariables false

theorem cSlice {k : Nat} {t e : TypeId} {cs : List TV} (hu : Program.underlying Tryd.prog t = some (.slice e)) (h : cellsOk Tryd.prog (k + 1) t cs) : ∃ x, cs = [x] ∧ cellsOk Tryd.prog (k + 1) t [x] := by
 have h' := h
 unfold cellsOk at h'
 rw [hu] at h'
 rcases h' with h' | ⟨rows, full, h', _⟩
 ·exact ⟨_, h', by rw [← h']; exact h⟩
 ·exact ⟨_, h', by rw [← h']; exact h⟩
theorem cInt {k : Nat} {cs : List TV} (h : cellsOk Tryd.prog (k + 1) 3 cs) : ∃ n, cs = [.int .i64 n] ∧ -9223372036854775808 ≤ n ∧ n ≤ 9223372036854775807 := cellsOk_i64 (by kernel_rfl) h
theorem cBool {k : Nat} {cs : List TV} (h : cellsOk Tryd.prog (k + 1) 4 cs) : ∃ b, cs = [.bool b] := cellsOk_boolT (by kernel_rfl) h
theorem cSpan {k : Nat} {cs : List TV} (h : cellsOk Tryd.prog (k + 2) 41 cs) : ∃ s : Span, cs = s.cs ∧ (-9223372036854775808 ≤ s.lo ∧ s.lo ≤ 9223372036854775807) ∧ -9223372036854775808 ≤ s.hi ∧ s.hi ≤ 9223372036854775807 := by
 have h := cellsOk_tys (ts := [3, 3]) (by kernel_rfl) h
 obtain ⟨_, r, rfl, h1, h⟩ := seqOk_cons h
 obtain ⟨_, r, rfl, h2, h⟩ := seqOk_cons h
 cases seqOk_nil h
 obtain ⟨a, rfl, ha⟩ := cInt h1
 obtain ⟨b, rfl, hb⟩ := cInt h2
 exact ⟨⟨a, b⟩, rfl, ha, hb⟩
theorem cInts {x : TV} {k : Nat} (h : cellsOk Tryd.prog (k + 2) 22 [x]) : ∃ l : List Int, IsRow ic x l ∧ l.length ≤ 17592186044415 ∧ ∀ n ∈ l, -9223372036854775808 ≤ n ∧ n ≤ 9223372036854775807 := by
 obtain ⟨l, h1, h2, h3, _⟩ := cellsOk_row (e := 3) (c := ic) (p := fun n => -9223372036854775808 ≤ n ∧ n ≤ 9223372036854775807) (by kernel_rfl) (fun cs hc => cInt hc) h
 rw [show Program.bytesOf Tryd.prog 3 = 8 by kernel_rfl] at h3
 unfold reachBytes at h3
 exact ⟨l, h1, by omega, h2⟩
theorem cTriple {k : Nat} {t : TypeId} (ht : tysOf Tryd.prog t = some [3, 3, 3]) {cs : List TV} (h : cellsOk Tryd.prog (k + 2) t cs) : ∃ a b c : Int, cs = [.int .i64 a, .int .i64 b, .int .i64 c] := by
 have h := cellsOk_tys ht h
 obtain ⟨_, r, rfl, h1, h⟩ := seqOk_cons h
 obtain ⟨_, r, rfl, h2, h⟩ := seqOk_cons h
 obtain ⟨_, r, rfl, h3, h⟩ := seqOk_cons h
 cases seqOk_nil h
 obtain ⟨a, rfl, _⟩ := cInt h1
 obtain ⟨b, rfl, _⟩ := cInt h2
 obtain ⟨c, rfl, _⟩ := cInt h3
 exact ⟨a, b, c, rfl⟩
end Go.Proofs.YtlonlnfenbadbaaDoor

/- Part TFx. -/
namespace Go.Of
open Go Go.RowKit Go.Pm Go.Oc
theorem choose_rows {α : Type} {Q : TV → α → Prop} : ∀ (l : List TV), (∀ y ∈ l, ∃ r, Q y r) → ∃ E : List α, E.length = l.length ∧ ∀ (i : Nat) (c : TV) (r : α), l[i]? = some c → E[i]? = some r → Q c r
 | [], _ => ⟨[], rfl, fun i c r h => by simp at h⟩
 | y :: l, h => by
  obtain ⟨r, hr⟩ := h y List.mem_cons_self
  obtain ⟨E, h1, h2⟩ := choose_rows l (fun z hz => h z (List.mem_cons_of_mem _ hz))
  refine ⟨r :: E, by simp [h1], fun i c q hc hq => ?_⟩
  cases i with
  | zero => simp at hc hq; subst hc; subst hq; exact hr
  | succ i => simp at hc hq; exact h2 i c q hc hq
end Go.Of
namespace Go.Proofs.YtlonlnfenbadbaaDoor
open Go.RowKit Go.Pm Go.Oc Go.Oc.Lv Go.Oh Go.Os Go.Of
set_option maxRecDepth 100000
set_option linter.unusedVariables false

theorem cVialF {k : Nat} {cs : List TV} (h : cellsOk Tryd.prog (k + 3) 43 cs) : ∃ v : Vial, cs = v.cs := by
 have h := cellsOk_tys (ts := [3, 41, 41, 41, 3]) (by kernel_rfl) h
 obtain ⟨_, r, rfl, h1, h⟩ := seqOk_cons h
 obtain ⟨_, r, rfl, h2, h⟩ := seqOk_cons h
 obtain ⟨_, r, rfl, h3, h⟩ := seqOk_cons h
 obtain ⟨_, r, rfl, h4, h⟩ := seqOk_cons h
 obtain ⟨_, r, rfl, h5, h⟩ := seqOk_cons h
 cases seqOk_nil h
 obtain ⟨m, rfl, _⟩ := cInt h1
 obtain ⟨a, rfl, _⟩ := cSpan h2
 obtain ⟨b, rfl, _⟩ := cSpan h3
 obtain ⟨c, rfl, _⟩ := cSpan h4
 obtain ⟨g, rfl, _⟩ := cInt h5
 exact ⟨⟨m, a.lo, a.hi, b.lo, b.hi, c.lo, c.hi, g⟩, rfl⟩
theorem cRdF {k : Nat} {cs : List TV} (h : cellsOk Tryd.prog (k + 2) 208 cs) : ∃ r : Lv.Rd, cs = r.cs ∧ True := by
 have h := cellsOk_tys (ts := [3, 3, 4]) (by kernel_rfl) h
 obtain ⟨_, r, rfl, h1, h⟩ := seqOk_cons h
 obtain ⟨_, r, rfl, h2, h⟩ := seqOk_cons h
 obtain ⟨_, r, rfl, h3, h⟩ := seqOk_cons h
 cases seqOk_nil h
 obtain ⟨a, rfl, _⟩ := cInt h1
 obtain ⟨b, rfl, _⟩ := cInt h2
 obtain ⟨c, rfl⟩ := cBool h3
 exact ⟨⟨a, b, c⟩, rfl, trivial⟩
theorem cRdsF {x : TV} {k : Nat} (h : cellsOk Tryd.prog (k + 3) 44 [x]) : ∃ l : List Lv.Rd, IsRow Lv.Rd.cs x l ∧ l.length ≤ 5864062014806 := by
 obtain ⟨l, h1, _, h3, _⟩ := cellsOk_row (e := 208) (c := Lv.Rd.cs) (p := fun _ => True) (by kernel_rfl) (fun cs hc => cRdF hc) h
 rw [show Program.bytesOf Tryd.prog 208 = 24 by kernel_rfl] at h3
 unfold reachBytes at h3
 exact ⟨l, h1, by omega⟩
theorem xFootedF {x : TV} (h : argOk Tryd.prog 48 x) : ∃ (v : Vial) (l : List Lv.Rd) (s : TV) (tv tz tt wo bo : Int), x = .agg (v.cs ++ [s, .int .i64 tv, .int .i64 tz, .int .i64 tt, .int .i64 wo, .int .i64 bo]) ∧ IsRow Lv.Rd.cs s l ∧ l.length ≤ 5864062014806 := by
 obtain ⟨cs, rfl, h'⟩ := argOk_agg (ts := [43, 44, 46, 3, 3]) (by kernel_rfl) h
 have h := cellsOk_tys (ts := [43, 44, 46, 3, 3]) (by kernel_rfl) h'
 obtain ⟨_, r, rfl, h1, h⟩ := seqOk_cons h
 obtain ⟨_, r, rfl, h2, h⟩ := seqOk_cons h
 obtain ⟨_, r, rfl, h3, h⟩ := seqOk_cons h
 obtain ⟨_, r, rfl, h4, h⟩ := seqOk_cons h
 obtain ⟨_, r, rfl, h5, h⟩ := seqOk_cons h
 cases seqOk_nil h
 obtain ⟨v, rfl⟩ := cVialF h1
 obtain ⟨s, rfl, h2⟩ := cSlice (e := 208) (by kernel_rfl) h2
 obtain ⟨l, hl, ll⟩ := cRdsF h2
 obtain ⟨a, b, c, rfl⟩ := cTriple (by kernel_rfl) h3
 obtain ⟨d, rfl, _⟩ := cInt h4
 obtain ⟨e, rfl, _⟩ := cInt h5
 exact ⟨v, l, s, a, b, c, d, e, rfl, hl, ll⟩
theorem cRows {x : TV} {k : Nat} (h : cellsOk Tryd.prog (k + 3) 52 [x]) : ∃ E : List (List Int), RowsI x E ∧ E.length ≤ 5864062014806 := by
 obtain ⟨l, h1, h2, h3, _⟩ := cellsOk_row (e := 22) (c := fun y : TV => [y]) (p := fun y => ∃ r : List Int, IsRow Ix.ic y r ∧ r.length ≤ 17592186044415) (by kernel_rfl) (fun cs hc => by
  obtain ⟨y, rfl, hy⟩ := cSlice (e := 3) (by kernel_rfl) hc
  obtain ⟨r, hr, lr, _⟩ := cInts hy
  exact ⟨y, rfl, r, hr, lr⟩) h
 rw [show Program.bytesOf Tryd.prog 22 = 24 by kernel_rfl] at h3
 unfold reachBytes at h3
 obtain ⟨E, e1, e2⟩ := choose_rows l h2
 refine ⟨E, ?_, by omega⟩
 have hfm : ∀ m : List TV, m.flatMap (fun y : TV => [y]) = m := fun m => by induction m with
  | nil => rfl
  | cons a m ih => rw [List.flatMap_cons, ih]; rfl
 rcases h1 with ⟨rfl, rfl⟩ | ⟨full, rfl⟩
 ·exact .inl ⟨rfl, List.eq_nil_of_length_eq_zero e1⟩
 ·exact .inr ⟨l, full, by rw [hfm, e1], e1.symm, e2⟩
theorem cReads {x : TV} {k : Nat} (h : cellsOk Tryd.prog (k + 3) 51 [x]) : ∃ l : List Of.Rd, IsRow Of.Rd.cs x l ∧ l.length ≤ 2932031007402 := by
 obtain ⟨l, h1, _, h3, _⟩ := cellsOk_row (e := 218) (c := Of.Rd.cs) (p := fun _ => True) (by kernel_rfl) (fun cs hc => by
  have h := cellsOk_tys (ts := [3, 3, 3, 3, 3, 3]) (by kernel_rfl) hc
  obtain ⟨_, r, rfl, h1, h⟩ := seqOk_cons h
  obtain ⟨_, r, rfl, h2, h⟩ := seqOk_cons h
  obtain ⟨_, r, rfl, h3, h⟩ := seqOk_cons h
  obtain ⟨_, r, rfl, h4, h⟩ := seqOk_cons h
  obtain ⟨_, r, rfl, h5, h⟩ := seqOk_cons h
  obtain ⟨_, r, rfl, h6, h⟩ := seqOk_cons h
  cases seqOk_nil h
  obtain ⟨a, rfl, _⟩ := cInt h1
  obtain ⟨b, rfl, _⟩ := cInt h2
  obtain ⟨c, rfl, _⟩ := cInt h3
  obtain ⟨d, rfl, _⟩ := cInt h4
  obtain ⟨e, rfl, _⟩ := cInt h5
  obtain ⟨f, rfl, _⟩ := cInt h6
  exact ⟨⟨a, b, c, d, e, f⟩, rfl, trivial⟩) h
 rw [show Program.bytesOf Tryd.prog 218 = 48 by kernel_rfl] at h3
 unfold reachBytes at h3
 exact ⟨l, h1, by omega⟩
theorem xScrewed {x : TV} (h : argOk Tryd.prog 54 x) : ∃ (T : List Int) (sT : TV) (M : Int) (L : List Of.Rd) (sL : TV) (E : List (List Int)) (sE : TV), x = .agg [sT, .int .i64 M, sL, sE] ∧ IsRow Ix.ic sT T ∧ T.length ≤ 17592186044415 ∧ IsRow Of.Rd.cs sL L ∧ L.length ≤ 2932031007402 ∧ RowsI sE E ∧ E.length ≤ 5864062014806 := by
 obtain ⟨cs, rfl, h'⟩ := argOk_agg (ts := [50, 51, 52]) (by kernel_rfl) h
 have h := cellsOk_tys (ts := [50, 51, 52]) (by kernel_rfl) h'
 obtain ⟨_, r, rfl, h1, h⟩ := seqOk_cons h
 obtain ⟨_, r, rfl, h2, h⟩ := seqOk_cons h
 obtain ⟨_, r, rfl, h3, h⟩ := seqOk_cons h
 cases seqOk_nil h
 have h := cellsOk_tys (ts := [22, 3]) (by kernel_rfl) h1
 obtain ⟨_, r, rfl, g1, h⟩ := seqOk_cons h
 obtain ⟨_, r, rfl, g2, h⟩ := seqOk_cons h
 cases seqOk_nil h
 obtain ⟨sT, rfl, g1⟩ := cSlice (e := 3) (by kernel_rfl) g1
 obtain ⟨T, hT, lT, _⟩ := cInts g1
 obtain ⟨M, rfl, _⟩ := cInt g2
 obtain ⟨sL, rfl, h2⟩ := cSlice (e := 218) (by kernel_rfl) h2
 obtain ⟨L, hL, lL⟩ := cReads h2
 obtain ⟨sE, rfl, h3⟩ := cSlice (e := 22) (by kernel_rfl) h3
 obtain ⟨E, hE, lE⟩ := cRows h3
 exact ⟨T, sT, M, L, sL, E, sE, rfl, hT, lT, hL, lL, hE, lE⟩
end Go.Proofs.YtlonlnfenbadbaaDoor
