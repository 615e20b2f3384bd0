/- Level: the walks of the program, 11: Choose. -/
import Derived.Test.YtgofljmnlfnlnaaLd
import Derived.Test.YtgofljmnlfnlnaaQmZb
namespace Go.Oc
open Go Go.Pm
/-- A vial that is offered. -/
structure Of where
  v : Vial
  i : Int
  p : Int
  deriving DecidableEq
def Of.cs (x : Of) : List TV := [.int .i64 x.v.marks, .int .i64 x.v.l0, .int .i64 x.v.l1, .int .i64 x.v.v0, .int .i64 x.v.v1, .int .i64 x.v.z0, .int .i64 x.v.z1, .int .i64 x.v.wr, .int .i64 x.i, .int .i64 x.p]
def unOfs : List TV → Option (List Of)
  | [] => some []
  | .int .i64 a :: .int .i64 b :: .int .i64 c :: .int .i64 d :: .int .i64 e :: .int .i64 f :: .int .i64 g :: .int .i64 h :: .int .i64 i :: .int .i64 p :: r => (unOfs r).map (⟨⟨a, b, c, d, e, f, g, h⟩, i, p⟩ :: ·)
  | _ => none
theorem unOfs_eq : ∀ l : List Of, unOfs (l.flatMap Of.cs) = some l
  | [] => rfl
  | x :: l => by simp [Of.cs, unOfs, unOfs_eq l]
theorem unOfs_some : ∀ {cs : List TV} {l : List Of}, unOfs cs = some l → cs = l.flatMap Of.cs := by
  intro cs
  induction cs using unOfs.induct with
  | case1 => intro l h; simp [unOfs] at h; subst h; rfl
  | case2 a b c d e f g h i p r ih =>
    intro l hh
    simp only [unOfs, Option.map_eq_some_iff] at hh
    obtain ⟨l', h1, rfl⟩ := hh
    rw [ih h1]; rfl
  | case3 r h1 h2 =>
    intro l h
    unfold unOfs at h
    split at h
    · exact absurd rfl h1
    · exact absurd rfl (h2 _ _ _ _ _ _ _ _ _ _ _)
    · cases h
attribute [go_sem] unOfs_eq
def bestStep (b : Option Of) (x : Of) : Option Of := match b with | none => some x | some y => if x.p < y.p then some x else some y
def bestTo (l : List Of) (k : Nat) : Option Of := (l.take k).foldl bestStep none
def bestOf (l : List Of) : Option Of := l.foldl bestStep none
def Of.zero : Of := ⟨⟨0, 0, 0, 0, 0, 0, 0, 0⟩, 0, 0⟩
theorem bestTo_succ {l : List Of} {k : Nat} {x : Of} (h : l[k]? = some x) : bestTo l (k + 1) = bestStep (bestTo l k) x := by
  unfold bestTo; rw [take_snoc h, List.foldl_append]; rfl
theorem bestTo_some {l : List Of} : ∀ {k : Nat}, 0 < k → k ≤ l.length → ∃ y, bestTo l k = some y
  | k + 1, _, h => by
    rw [bestTo_succ (List.getElem?_eq_getElem (show k < l.length by omega))]
    unfold bestStep
    split
    · exact ⟨_, rfl⟩
    · split <;> exact ⟨_, rfl⟩
/-- Is a stock right, as far as it was looked at? -/
def okBase (n np : Nat) (rg fl : Int) : Bool := inB n 1 10 && ((np : Int) == (n : Int)) && inB rg 0 100000 && inB fl 0 100000
def okAt (st : List Vial) (pr : List Int) (i : Nat) : Bool := match st[i]?, pr[i]? with | some v, some p => v.ok && inB p 0 1000 | _, _ => false
def okTo (st : List Vial) (pr : List Int) (rg fl : Int) (k : Nat) : Bool := okBase st.length pr.length rg fl && (List.range k).all (okAt st pr)
theorem okTo_succ (st : List Vial) (pr : List Int) (rg fl : Int) (k : Nat) : okTo st pr rg fl (k + 1) = (okTo st pr rg fl k && okAt st pr k) := by
  unfold okTo; rw [List.range_succ, List.all_append]; simp [Bool.and_assoc]
def offAt (st : List Vial) (pr : List Int) (rg fl : Int) (i : Nat) : Option Of := match st[i]?, pr[i]? with | some v, some p => if doesP v rg fl then some ⟨v, i, p⟩ else none | _, _ => none
def offTo (st : List Vial) (pr : List Int) (rg fl : Int) (k : Nat) : List Of := (List.range k).filterMap (offAt st pr rg fl)
theorem offTo_t {st : List Vial} {pr : List Int} {rg fl : Int} {k : Nat} {x : Of} (h : offAt st pr rg fl k = some x) : offTo st pr rg fl (k + 1) = offTo st pr rg fl k ++ [x] := by
  simp [offTo, List.range_succ, h]
theorem offTo_f {st : List Vial} {pr : List Int} {rg fl : Int} {k : Nat} (h : offAt st pr rg fl k = none) : offTo st pr rg fl (k + 1) = offTo st pr rg fl k := by
  simp [offTo, List.range_succ, h]
theorem offTo_le (st : List Vial) (pr : List Int) (rg fl : Int) (k : Nat) : (offTo st pr rg fl k).length ≤ k := by
  have := List.length_filterMap_le (offAt st pr rg fl) (List.range k)
  simpa [offTo] using this
/-- What Choose hands back. -/
def chooseP (st : List Vial) (pr : List Int) (rg fl : Int) : Int × Int :=
  if okTo st pr rg fl st.length then (match bestOf (offTo st pr rg fl st.length) with | some x => (x.i, 0) | none => (0, 4)) else (0, 34)
def ic (x : Int) : List TV := [.int .i64 x]
theorem ic_ints : ∀ l : List Int, l.flatMap ic = ints l
  | [] => rfl
  | x :: l => by rw [List.flatMap_cons, ic_ints l]; rfl
def unVials : List TV → Option (List Vial)
  | [] => some []
  | .int .i64 a :: .int .i64 b :: .int .i64 c :: .int .i64 d :: .int .i64 e :: .int .i64 f :: .int .i64 g :: .int .i64 h :: r => (unVials r).map (⟨a, b, c, d, e, f, g, h⟩ :: ·)
  | _ => none
theorem unVials_eq : ∀ l : List Vial, unVials (l.flatMap Vial.cs) = some l
  | [] => rfl
  | x :: l => by simp [Vial.cs, unVials, unVials_eq l]
theorem unVials_some : ∀ {cs : List TV} {l : List Vial}, unVials cs = some l → cs = l.flatMap Vial.cs := by
  intro cs
  induction cs using unVials.induct with
  | case1 => intro l h; simp [unVials] at h; subst h; rfl
  | case2 a b c d e f g h r ih =>
    intro l hh
    simp only [unVials, Option.map_eq_some_iff] at hh
    obtain ⟨l', h1, rfl⟩ := hh
    rw [ih h1]; rfl
  | case3 r h1 h2 =>
    intro l h
    unfold unVials at h
    split at h
    · exact absurd rfl h1
    · exact absurd rfl (h2 _ _ _ _ _ _ _ _ _)
    · cases h
attribute [go_sem] unVials_eq
end Go.Oc
namespace Go.Proofs.Ytgofljmnlfnlnaa
open Go.RowKit Go.Pm Go.Oc
set_option maxRecDepth 100000
set_option linter.unusedVariables false
set_option maxHeartbeats 4000000

theorem lPrice_c (x : Of) : PCalls Try.prog 66 [.agg x.cs] (.int .i64 x.p) := by
  refine pcalls_by Try.mixes noSpec_ok (fn := Try.f66) Try.func66 rfl (by kernel_rfl) (by show 1 ≤ _; decide) ?_
  simp (decide := true) (maxSteps := 4000000) only [go_sem, Nat.reduceAdd, Nat.reduceSub, Nat.reduceMul, Nat.reduceDiv, Nat.reduceMod, Nat.reduceLT, Nat.reduceLeDiff, Nat.reduceEqDiff, Nat.reduceBEq, Nat.reduceBNe, Nat.reduceGT, Int.reduceAdd, Int.reduceSub, Int.reduceMul, Int.reduceNeg, Int.reduceLT, Int.reduceLE, Int.reduceEq, Int.reduceNe, Int.reduceBEq, Int.reduceBNe, Int.reduceToNat, Int.reduceGT, Int.reduceGE, ↓reduceIte, decide_true, decide_false, Try.f66, Of.cs]
noncomputable def glPrice : List TV → Option TV
  | [.agg [.int .i64 a, .int .i64 b, .int .i64 c, .int .i64 d, .int .i64 e, .int .i64 f, .int .i64 g, .int .i64 h, .int .i64 i, .int .i64 p]] => some (.int .i64 p)
  | _ => none
theorem glPrice_ok : ∀ xs r, glPrice xs = some r → PCalls Try.prog 66 xs r := by
  intro xs r h
  unfold glPrice at h
  split at h
  · cases h; exact lPrice_c ⟨⟨_, _, _, _, _, _, _, _⟩, _, _⟩
  · cases h
attribute [go_sem] glPrice
noncomputable def spH1 : Pm.Spec := spD3.one 66 glPrice
attribute [go_sem] spH1
theorem spH1_ok : SpecOk Try.prog spH1 := Spec.one_ok glPrice_ok spD3_ok
theorem lCheapest_c (l : List Of) (full : Bool) (hl : l.length ≤ 1000) : PCalls Try.prog 65 [.fn 66 [] [], .sl (l.flatMap Of.cs) l.length full] (.tup [.agg ((bestOf l).getD Of.zero).cs, .bool (decide ((l.length : Int) > 0))]) := by
  refine pcalls_by Try.mixes spH1_ok (fn := Try.f65) Try.func65 rfl (by kernel_rfl) (by show 2 ≤ _; decide) ?_
  simp (decide := true) (maxSteps := 4000000) only [go_sem, Nat.reduceAdd, Nat.reduceSub, Nat.reduceMul, Nat.reduceDiv, Nat.reduceMod, Nat.reduceLT, Nat.reduceLeDiff, Nat.reduceEqDiff, Nat.reduceBEq, Nat.reduceBNe, Nat.reduceGT, Int.reduceAdd, Int.reduceSub, Int.reduceMul, Int.reduceNeg, Int.reduceLT, Int.reduceLE, Int.reduceEq, Int.reduceNe, Int.reduceBEq, Int.reduceBNe, Int.reduceToNat, Int.reduceGT, Int.reduceGE, ↓reduceIte, decide_true, decide_false, Try.f65]
  refine pwpC_loopQ (A := { k : Nat // k ≤ l.length }) (fun k => { env := [(11, .t (.int .i64 k.1)), (10, .t (.int .i64 l.length)), (9, .t (.sl (l.flatMap Of.cs) l.length full)), (0, .t (.fn 66 [] [])), (1, .t (.sl (l.flatMap Of.cs) l.length full)), (4, .ptr 0 0), (6, .ptr 1 0)], heap := [.box (Of.zero.cs.map .t), .box (((bestTo l k.1).getD Of.zero).cs.map .t)] }) (fun k => l.length - k.1) ⟨0, by omega⟩ ?_ (fun k => by rfl) fun Q1 hQ1 ⟨k, hk⟩ I1 hI1 => ?_
  · simp (decide := true) (maxSteps := 4000000) only [go_sem, Nat.reduceAdd, Nat.reduceSub, Nat.reduceMul, Nat.reduceDiv, Nat.reduceMod, Nat.reduceLT, Nat.reduceLeDiff, Nat.reduceEqDiff, Nat.reduceBEq, Nat.reduceBNe, Nat.reduceGT, Int.reduceAdd, Int.reduceSub, Int.reduceMul, Int.reduceNeg, Int.reduceLT, Int.reduceLE, Int.reduceEq, Int.reduceNe, Int.reduceBEq, Int.reduceBNe, Int.reduceToNat, Int.reduceGT, Int.reduceGE, ↓reduceIte, decide_true, decide_false, Of.cs, Of.zero, bestTo]
  · by_cases hlt : (k : Int) < l.length
    · obtain ⟨x, hx⟩ := get_lt hlt
      have hd := flat_at Of.cs (n := 10) (fun _ => rfl) hx
      have hc1 : IntKind.i64.wrap (k + 1) = ((k + 1 : Nat) : Int) := by rw [wrap_in (by omega) (by omega)]; omega
      have hs := bestTo_succ hx
      rcases Nat.eq_zero_or_pos k with h0 | h0
      · subst h0
        have e0 : (((0 : Nat) : Int) == 0) = true := rfl
        have hb0 : bestTo l 0 = none := rfl
        rw [hb0] at hs
        simp (decide := true) (maxSteps := 4000000) only [go_sem, Nat.reduceAdd, Nat.reduceSub, Nat.reduceMul, Nat.reduceDiv, Nat.reduceMod, Nat.reduceLT, Nat.reduceLeDiff, Nat.reduceEqDiff, Nat.reduceBEq, Nat.reduceBNe, Nat.reduceGT, Int.reduceAdd, Int.reduceSub, Int.reduceMul, Int.reduceNeg, Int.reduceLT, Int.reduceLE, Int.reduceEq, Int.reduceNe, Int.reduceBEq, Int.reduceBNe, Int.reduceToNat, Int.reduceGT, Int.reduceGE, ↓reduceIte, decide_true, decide_false, hlt, hd, Of.cs, Of.zero, e0]
        refine hI1 _ ⟨1, by omega⟩ (by simp only; omega) ?_
        simp (decide := true) (maxSteps := 4000000) only [go_sem, Nat.reduceAdd, Nat.reduceSub, Nat.reduceMul, Nat.reduceDiv, Nat.reduceMod, Nat.reduceLT, Nat.reduceLeDiff, Nat.reduceEqDiff, Nat.reduceBEq, Nat.reduceBNe, Nat.reduceGT, Int.reduceAdd, Int.reduceSub, Int.reduceMul, Int.reduceNeg, Int.reduceLT, Int.reduceLE, Int.reduceEq, Int.reduceNe, Int.reduceBEq, Int.reduceBNe, Int.reduceToNat, Int.reduceGT, Int.reduceGE, ↓reduceIte, decide_true, decide_false, hc1, hs, bestStep, Of.cs, Of.zero]
      · obtain ⟨y, hy⟩ := bestTo_some h0 hk
        have e0 : ((k : Int) == 0) = false := by simp; omega
        rw [hy] at hs
        by_cases hp : x.p < y.p
        · simp (decide := true) (maxSteps := 4000000) only [go_sem, Nat.reduceAdd, Nat.reduceSub, Nat.reduceMul, Nat.reduceDiv, Nat.reduceMod, Nat.reduceLT, Nat.reduceLeDiff, Nat.reduceEqDiff, Nat.reduceBEq, Nat.reduceBNe, Nat.reduceGT, Int.reduceAdd, Int.reduceSub, Int.reduceMul, Int.reduceNeg, Int.reduceLT, Int.reduceLE, Int.reduceEq, Int.reduceNe, Int.reduceBEq, Int.reduceBNe, Int.reduceToNat, Int.reduceGT, Int.reduceGE, ↓reduceIte, decide_true, decide_false, hlt, hd, Of.cs, Of.zero, e0, hy, hp]
          refine hI1 _ ⟨k + 1, by omega⟩ (by simp only; omega) ?_
          simp (decide := true) (maxSteps := 4000000) only [go_sem, Nat.reduceAdd, Nat.reduceSub, Nat.reduceMul, Nat.reduceDiv, Nat.reduceMod, Nat.reduceLT, Nat.reduceLeDiff, Nat.reduceEqDiff, Nat.reduceBEq, Nat.reduceBNe, Nat.reduceGT, Int.reduceAdd, Int.reduceSub, Int.reduceMul, Int.reduceNeg, Int.reduceLT, Int.reduceLE, Int.reduceEq, Int.reduceNe, Int.reduceBEq, Int.reduceBNe, Int.reduceToNat, Int.reduceGT, Int.reduceGE, ↓reduceIte, decide_true, decide_false, hc1, hs, bestStep, hp, Of.cs, Of.zero]
        · simp (decide := true) (maxSteps := 4000000) only [go_sem, Nat.reduceAdd, Nat.reduceSub, Nat.reduceMul, Nat.reduceDiv, Nat.reduceMod, Nat.reduceLT, Nat.reduceLeDiff, Nat.reduceEqDiff, Nat.reduceBEq, Nat.reduceBNe, Nat.reduceGT, Int.reduceAdd, Int.reduceSub, Int.reduceMul, Int.reduceNeg, Int.reduceLT, Int.reduceLE, Int.reduceEq, Int.reduceNe, Int.reduceBEq, Int.reduceBNe, Int.reduceToNat, Int.reduceGT, Int.reduceGE, ↓reduceIte, decide_true, decide_false, hlt, hd, Of.cs, Of.zero, e0, hy, hp]
          refine hI1 _ ⟨k + 1, by omega⟩ (by simp only; omega) ?_
          simp (decide := true) (maxSteps := 4000000) only [go_sem, Nat.reduceAdd, Nat.reduceSub, Nat.reduceMul, Nat.reduceDiv, Nat.reduceMod, Nat.reduceLT, Nat.reduceLeDiff, Nat.reduceEqDiff, Nat.reduceBEq, Nat.reduceBNe, Nat.reduceGT, Int.reduceAdd, Int.reduceSub, Int.reduceMul, Int.reduceNeg, Int.reduceLT, Int.reduceLE, Int.reduceEq, Int.reduceNe, Int.reduceBEq, Int.reduceBNe, Int.reduceToNat, Int.reduceGT, Int.reduceGE, ↓reduceIte, decide_true, decide_false, hc1, hs, bestStep, hp, Of.cs, Of.zero, hy]
    · have hkl : k = l.length := by omega
      subst hkl
      have hbe : bestTo l l.length = bestOf l := by unfold bestTo; rw [List.take_length]; rfl
      simp (decide := true) (maxSteps := 4000000) only [go_sem, Nat.reduceAdd, Nat.reduceSub, Nat.reduceMul, Nat.reduceDiv, Nat.reduceMod, Nat.reduceLT, Nat.reduceLeDiff, Nat.reduceEqDiff, Nat.reduceBEq, Nat.reduceBNe, Nat.reduceGT, Int.reduceAdd, Int.reduceSub, Int.reduceMul, Int.reduceNeg, Int.reduceLT, Int.reduceLE, Int.reduceEq, Int.reduceNe, Int.reduceBEq, Int.reduceBNe, Int.reduceToNat, Int.reduceGT, Int.reduceGE, ↓reduceIte, decide_true, decide_false, hlt]
      refine hQ1 _ _ ?_
      simp (decide := true) (maxSteps := 4000000) only [go_sem, Nat.reduceAdd, Nat.reduceSub, Nat.reduceMul, Nat.reduceDiv, Nat.reduceMod, Nat.reduceLT, Nat.reduceLeDiff, Nat.reduceEqDiff, Nat.reduceBEq, Nat.reduceBNe, Nat.reduceGT, Int.reduceAdd, Int.reduceSub, Int.reduceMul, Int.reduceNeg, Int.reduceLT, Int.reduceLE, Int.reduceEq, Int.reduceNe, Int.reduceBEq, Int.reduceBNe, Int.reduceToNat, Int.reduceGT, Int.reduceGE, ↓reduceIte, decide_true, decide_false, hbe, Of.cs, Of.zero]
theorem lCheapest_n : PCalls Try.prog 65 [.fn 66 [] [], .nilSl] (.tup [.agg ((bestOf []).getD Of.zero).cs, .bool false]) := by
  refine pcalls_by Try.mixes spH1_ok (fn := Try.f65) Try.func65 rfl (by kernel_rfl) (by show 2 ≤ _; decide) ?_
  simp (decide := true) (maxSteps := 4000000) only [go_sem, Nat.reduceAdd, Nat.reduceSub, Nat.reduceMul, Nat.reduceDiv, Nat.reduceMod, Nat.reduceLT, Nat.reduceLeDiff, Nat.reduceEqDiff, Nat.reduceBEq, Nat.reduceBNe, Nat.reduceGT, Int.reduceAdd, Int.reduceSub, Int.reduceMul, Int.reduceNeg, Int.reduceLT, Int.reduceLE, Int.reduceEq, Int.reduceNe, Int.reduceBEq, Int.reduceBNe, Int.reduceToNat, Int.reduceGT, Int.reduceGE, ↓reduceIte, decide_true, decide_false, Try.f65]
  refine pwpC_loopQ (A := Unit) (fun k => { env := [(11, .t (.int .i64 0)), (10, .t (.int .i64 0)), (1, .t .nilSl), (4, .ptr 0 0), (6, .ptr 1 0)], heap := [.box (Of.zero.cs.map .t), .box (Of.zero.cs.map .t)] }) (fun k => 0) () ?_ (fun k => by rfl) fun Q1 hQ1 k I1 hI1 => ?_
  · simp (decide := true) (maxSteps := 4000000) only [go_sem, Nat.reduceAdd, Nat.reduceSub, Nat.reduceMul, Nat.reduceDiv, Nat.reduceMod, Nat.reduceLT, Nat.reduceLeDiff, Nat.reduceEqDiff, Nat.reduceBEq, Nat.reduceBNe, Nat.reduceGT, Int.reduceAdd, Int.reduceSub, Int.reduceMul, Int.reduceNeg, Int.reduceLT, Int.reduceLE, Int.reduceEq, Int.reduceNe, Int.reduceBEq, Int.reduceBNe, Int.reduceToNat, Int.reduceGT, Int.reduceGE, ↓reduceIte, decide_true, decide_false, Of.cs, Of.zero]
  · simp (decide := true) (maxSteps := 4000000) only [go_sem, Nat.reduceAdd, Nat.reduceSub, Nat.reduceMul, Nat.reduceDiv, Nat.reduceMod, Nat.reduceLT, Nat.reduceLeDiff, Nat.reduceEqDiff, Nat.reduceBEq, Nat.reduceBNe, Nat.reduceGT, Int.reduceAdd, Int.reduceSub, Int.reduceMul, Int.reduceNeg, Int.reduceLT, Int.reduceLE, Int.reduceEq, Int.reduceNe, Int.reduceBEq, Int.reduceBNe, Int.reduceToNat, Int.reduceGT, Int.reduceGE, ↓reduceIte, decide_true, decide_false]
    refine hQ1 _ _ ?_
    simp (decide := true) (maxSteps := 4000000) only [go_sem, Nat.reduceAdd, Nat.reduceSub, Nat.reduceMul, Nat.reduceDiv, Nat.reduceMod, Nat.reduceLT, Nat.reduceLeDiff, Nat.reduceEqDiff, Nat.reduceBEq, Nat.reduceBNe, Nat.reduceGT, Int.reduceAdd, Int.reduceSub, Int.reduceMul, Int.reduceNeg, Int.reduceLT, Int.reduceLE, Int.reduceEq, Int.reduceNe, Int.reduceBEq, Int.reduceBNe, Int.reduceToNat, Int.reduceGT, Int.reduceGE, ↓reduceIte, decide_true, decide_false, Of.cs, Of.zero, bestOf]
end Go.Proofs.Ytgofljmnlfnlnaa
