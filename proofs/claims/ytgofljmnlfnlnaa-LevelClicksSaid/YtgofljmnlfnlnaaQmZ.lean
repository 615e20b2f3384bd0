/- The pure machine, part Z: the rules by which a walk is reckoned. -/
import Derived.Test.YtgofljmnlfnlnaaQmX
namespace Go.Pm
open Go Go.RowKit

variable {P : Program}

/-- May the order be drawn? (for the discharger: kernel_rfl) -/
def DrawK (ops : Array Oper) (fs : List Foot) : Bool := drawOk ops fs
theorem DrawK_of {ops : Array Oper} {fs : List Foot} (h : drawOk ops fs = true) : DrawK ops fs = true := h

/-- A test, whose value is being reckoned. -/
noncomputable def condC (P : Program) (sp : Spec) (X : PX) (n : Nat) (v : PV) (a b : Code) (Q : Exit → CS → Prop) (σ : CS) : Prop := condK v (pwpC P sp X n a Q σ) (pwpC P sp X n b Q σ)

section
variable (sp : Spec) (X : PX) (n : Nat) (Q : Exit → CS → Prop) (σ : CS)
@[go_sem] theorem pwpC_skip : pwpC P sp X n .skip Q σ = Q .normal σ := rfl
@[go_sem] theorem pwpC_label (l : Nat) : pwpC P sp X n (.label l) Q σ = Q .normal σ := rfl
@[go_sem] theorem pwpC_region (id : Nat) (ops : Array Oper) (draw : Bool) : pwpC P sp X n (.region id ops draw) Q σ =
    popsC P sp X.Y n ops ops.toList σ [] fun σ' fs => (draw = true → DrawK ops fs = true) ∧ Q .normal σ' := rfl
@[go_sem] theorem pwpC_seq (a b : Code) : pwpC P sp X n (.seq a b) Q σ = pwpC P sp X n a (seqC (pwpC P sp X n b Q) Q) σ := rfl
@[go_sem] theorem pwpC_block (id : Nat) (c : Code) : pwpC P sp X n (.block id c) Q σ = pwpC P sp X n c (blockC id Q) σ := rfl
@[go_sem] theorem pwpC_scope (c : Code) : pwpC P sp X n (.scope c) Q σ = pwpC P sp X n c (scopeC Q) σ := rfl
@[go_sem] theorem pwpC_exit (id : Nat) : pwpC P sp X n (.exit id) Q σ = Q (.exit id) σ := rfl
@[go_sem] theorem pwpC_ret : pwpC P sp X n .ret Q σ = Q .ret σ := rfl
@[go_sem] theorem pwpC_cond (c : Operand) (a b : Code) : pwpC P sp X n (.cond c a b) Q σ = condC P sp X n (σ.eval c) a b Q σ := rfl
@[go_sem] theorem condC_true (a b : Code) : condC P sp X n (.t (.bool true)) a b Q σ = pwpC P sp X n a Q σ := by simp [condC, condK]
@[go_sem] theorem condC_false (a b : Code) : condC P sp X n (.t (.bool false)) a b Q σ = pwpC P sp X n b Q σ := by simp [condC, condK]
theorem condC_both {t : Bool} {a b : Code} (h1 : t = true → pwpC P sp X n a Q σ) (h2 : t = false → pwpC P sp X n b Q σ) : condC P sp X n (.t (.bool t)) a b Q σ := ⟨h1, h2⟩
end
theorem pwpC_loop {sp : Spec} {X : PX} {n : Nat} {c : Code} {Q : Exit → CS → Prop} {s : CS} {A : Type} (S : A → CS) (μ : A → Nat) (x0 : A) (h0 : weakW X.k s (S x0)) (hS : ∀ x, keysOk n (S x).env = true)
    (h : ∀ x, pwpC P sp X n c (seqC (fun s' => ∃ x', weakW X.k s' (S x') ∧ μ x' < μ x) Q) (S x)) : pwpC P sp X n (.loop c) Q s := ⟨A, S, μ, x0, h0, hS, h⟩

attribute [go_sem] getL_cons getL_zero
theorem getL_nil (i : Nat) : getL [] i = .res := by simp [getL]
attribute [go_sem] getL_nil
@[go_sem] theorem rowsI_nil (h : Hp) (k : Nat) : rowsI h k [] = [] := by cases k <;> rfl
@[go_sem] theorem rowsI_cons (h : Hp) (k id : Nat) (l : List Nat) : rowsI h (k + 1) (id :: l) = addN [] ((id :: l).flatMap fun id => (match h id with | .grow _ cells _ _ => rowsI h k (addN [] (cells.flatMap idsG)) | _ => []) ++ [id]) := rfl
attribute [go_sem] popsC stepC valC valC0 muOf fzIds idsG yldC aggP consP nthP updateO mfoot keyOk scalarOk callC yldOf popF frozenO normA wrC setL reachN addN idsP idsO PV.inv PO.inv nodupN isCnt idsOk PV.ren PO.ren seenBy condW strip pickP pop popB
  constP ofVal footO footQ sfoot targetO allO PV.toT pcells
  TV.cells loadB storeB partT binT intT shiftT cmpT unT fillT partsO placesO
  buildSliceO lenO minO maxO min2T max2T appendG srcG srcO freshO growCells growIs roomy growInfo isRes tokIs indexO
  boundO sliceX  pv_undef capId List.length_cons List.length_nil List.replicate_succ List.replicate_zero List.map_cons
  List.map_nil List.cons_append List.nil_append List.append_nil List.getD_cons_zero List.getD_cons_succ List.getD_nil List.getElem?_cons_zero List.getElem?_cons_succ List.getElem?_nil List.set_cons_zero List.set_cons_succ
  List.set_nil List.drop_zero List.drop_succ_cons List.drop_nil List.take_zero List.take_succ_cons List.take_nil List.foldl_cons List.foldl_nil List.filter_cons List.filter_nil List.getElem?_toArray
  List.toList_toArray List.size_toArray List.all_cons List.all_nil List.contains_cons List.contains_nil List.isEmpty_nil List.isEmpty_cons Option.some.injEq Option.map_some Option.map_none Option.bind_some
  Option.bind_none Option.getD_some Option.getD_none Option.isSome_some Option.isSome_none Option.isNone_some Option.isNone_none reduceCtorEq Prod.mk.injEq PV.t.injEq TV.int.injEq TV.bool.injEq
  TV.tup.injEq TV.agg.injEq TV.sl.injEq List.cons.injEq and_true true_and and_false false_and or_true true_or or_false false_or
  not_true not_false_eq_true ne_eq if_true if_false Bool.false_eq_true Bool.true_eq_false forall_const implies_true forall_false not_false_iff imp_self
  ite_true ite_false Bool.and_true Bool.true_and Bool.and_false Bool.false_and Bool.or_true Bool.true_or Bool.or_false Bool.false_or Bool.not_true Bool.not_false
  beq_self_eq_true beq_true beq_false Bool.not_not cond_true cond_false Array.toList_map Int.toNat_natCast Int.natCast_nonneg Nat.add_zero Nat.zero_add Nat.sub_zero
  Nat.sub_self Nat.zero_le

attribute [go_sem] argsE isTok noneW envW keysOk PV.under PO.under getA CS.eval CS.put guardC seqC blockC scopeC bodyC bodyH bodyN resC resC1 retIds frzC thawP thawC weakW heapW objW cellsW cellW cntL List.range_succ List.range_zero List.zip_cons_cons List.zip_nil_right List.zip_nil_left List.flatMap_cons List.flatMap_nil List.idxOf_cons
theorem wrap_in {n : Int} (h1 : -9223372036854775808 ≤ n) (h2 : n ≤ 9223372036854775807) : IntKind.i64.wrap n = n := by
  unfold IntKind.wrap IntKind.bits IntKind.signed
  simp only [Nat.reduceSub, Bool.true_and, decide_eq_true_eq, ge_iff_le]
  have e1 : (2 : Int) ^ 64 = 18446744073709551616 := rfl
  have e2 : (2 : Int) ^ 63 = 9223372036854775808 := rfl
  rw [e1, e2]
  split <;> omega


def noSpec : Spec := { p := fun _ _ => none, h := fun _ _ _ => none, fz := fun _ => false }
theorem noSpec_ok : SpecOk P noSpec := ⟨fun f as r h => (by cases h), fun f as hl v hl' h => (by cases h)⟩

/-- One contract more. -/
def Spec.one (f : FuncId) (g : List TV → Option TV) (sp : Spec) : Spec := { sp with p := fun f' as => if f' = f then g as else sp.p f' as }
theorem Spec.one_ok {f : FuncId} {g : List TV → Option TV} {sp : Spec} (hg : ∀ as r, g as = some r → PCalls P f as r) (hs : SpecOk P sp) : SpecOk P (sp.one f g) :=
  ⟨fun f' as r h => by
    simp only [Spec.one] at h
    split at h
    · rename_i e; subst e; exact hg as r h
    · exact hs.1 f' as r h, hs.2⟩
def Spec.oneH (f : FuncId) (g : List PV → List PO → Option (PV × List PO)) (sp : Spec) : Spec := { sp with h := fun f' as hl => if f' = f then g as hl else sp.h f' as hl }
theorem Spec.oneH_ok {f : FuncId} {g : List PV → List PO → Option (PV × List PO)} {sp : Spec} (hg : ∀ as hl v hl', g as hl = some (v, hl') → HCalls P f as (getL hl) v (getL hl')) (hs : SpecOk P sp) : SpecOk P (sp.oneH f g) :=
  ⟨hs.1, fun f' as hl v hl' h => by
    simp only [Spec.oneH] at h
    split at h
    · rename_i e; subst e; exact hg as hl v hl' h
    · exact hs.2 f' as hl v hl' h⟩
attribute [go_sem] Spec.one Spec.oneH noSpec

end Go.Pm
