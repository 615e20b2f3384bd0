/- What the claim leans on, text 5. -/
import Derived.Test.YtlonlnfenbadbaaDoorTie
import Derived.Test.YtlonlnfenbadbaaDoorCards
import Derived.LaidMore
import Derived.SevenTiedAt
import Derived.Test.YtlonlnfenbadbaaDoorC4
set_option linter.unusedSimpArgs false
set_option linter.unusedVariables false

/- Part Ib. -/
namespace Go.Oc.Ix
end Go.Oc.Ix
namespace Go.Proofs.YtlonlnfenbadbaaDoor.Ix
end Go.Proofs.YtlonlnfenbadbaaDoor.Ix
namespace Go.Proofs.YtlonlnfenbadbaaDoor.Ix
open Go.RowKit Go.Pm Go.Oc Go.Oc.Ix
set_option maxRecDepth 100000
set_option linter.unusedVariables false
set_option maxHeartbeats 4000000

theorem In_c (n lo hi : Int) : PCalls Tryd.prog 55 [.int .i64 n, .int .i64 lo, .int .i64 hi] (.bool (inB n lo hi)) := by
  refine pcalls_by Tryd.mixes noSpec_ok (fn := Tryd.f55) Tryd.func55 rfl (by kernel_rfl) (by show 3 ≤ _; decide) ?_
  simp (decide := true) (maxSteps := 4000000) only [go_sem, Nat.reduceAdd, Nat.reduceSub, Nat.reduceMul, Nat.reduceDiv, Nat.reduceMod, Nat.reduceLT, Nat.reduceLeDiff, Nat.reduceEqDiff, Nat.reduceBEq, Nat.reduceBNe, Nat.reduceGT, Int.reduceAdd, Int.reduceSub, Int.reduceMul, Int.reduceNeg, Int.reduceLT, Int.reduceLE, Int.reduceEq, Int.reduceNe, Int.reduceBEq, Int.reduceBNe, Int.reduceToNat, Int.reduceGT, Int.reduceGE, ↓reduceIte, decide_true, decide_false, Tryd.f55, inB, ge_iff_le]
def gIn : List TV → Option TV
  | [.int .i64 n, .int .i64 a, .int .i64 b] => some (.bool (inB n a b))
  | _ => none
theorem gIn_ok : ∀ xs r, gIn xs = some r → PCalls Tryd.prog 55 xs r := by
  intro xs r h
  unfold gIn at h
  split at h
  · cases h; exact In_c _ _ _
  · cases h
def spIn : Pm.Spec := noSpec.one 55 gIn
attribute [go_sem] gIn
@[go_sem] theorem spIn_p (f : FuncId) (xs : List TV) : spIn.p f xs = Pm.Spec.p (noSpec.one 55 gIn) f xs := rfl
@[go_sem] theorem spIn_h (f : FuncId) (ps : List PV) (hl : List PO) : spIn.h f ps hl = Pm.Spec.h (noSpec.one 55 gIn) f ps hl := rfl
@[go_sem] theorem spIn_y (Y : Pm.YS) (f : FuncId) (ps : List PV) (hl : List PO) : spIn.y Y f ps hl = Pm.Spec.y (noSpec.one 55 gIn) Y f ps hl := rfl
@[go_sem] theorem spIn_fz (f : FuncId) : spIn.fz f = Pm.Spec.fz (noSpec.one 55 gIn) f := rfl
@[go_sem] theorem spIn_fr (f : FuncId) : spIn.fr f = Pm.Spec.fr (noSpec.one 55 gIn) f := rfl
@[go_sem] theorem spIn_yf (f : FuncId) : spIn.yf f = Pm.Spec.yf (noSpec.one 55 gIn) f := rfl
@[go_sem] theorem spIn_gd : spIn.gd = Pm.Spec.gd (noSpec.one 55 gIn) := rfl
@[go_sem] theorem spIn_mu (t : TypeId) : spIn.mu t = Pm.Spec.mu (noSpec.one 55 gIn) t := rfl
@[go_sem] theorem spIn_nf (t : TypeId) : spIn.nf t = Pm.Spec.nf (noSpec.one 55 gIn) t := rfl
theorem spIn_ok : SpecOk Tryd.prog spIn := Spec.one_ok gIn_ok noSpec_ok

theorem Mod_c (n by_ : Int) (h : 0 < by_) (h2 : by_ ≤ 9223372036854775807) : PCalls Tryd.prog 16 [.int .i64 n, .int .i64 by_] (.int .i64 (n % by_)) := by
  refine pcalls_by Tryd.mixes noSpec_ok (fn := Tryd.f16) Tryd.func16 rfl (by kernel_rfl) (by show 2 ≤ _; decide) ?_
  have hne : ¬ by_ = 0 := by omega
  simp (decide := true) (maxSteps := 4000000) only [go_sem, Nat.reduceAdd, Nat.reduceSub, Nat.reduceMul, Nat.reduceDiv, Nat.reduceMod, Nat.reduceLT, Nat.reduceLeDiff, Nat.reduceEqDiff, Nat.reduceBEq, Nat.reduceBNe, Nat.reduceGT, Int.reduceAdd, Int.reduceSub, Int.reduceMul, Int.reduceNeg, Int.reduceLT, Int.reduceLE, Int.reduceEq, Int.reduceNe, Int.reduceBEq, Int.reduceBNe, Int.reduceToNat, Int.reduceGT, Int.reduceGE, ↓reduceIte, decide_true, decide_false, Tryd.f16, hne]
  have e := Int.tmod_eq_emod (a := n) (b := by_)
  have e1 := Int.emod_nonneg n hne
  have e2 := Int.emod_lt_of_pos n h
  by_cases hn : n.tmod by_ < 0
  · simp (decide := true) (maxSteps := 4000000) only [go_sem, Nat.reduceAdd, Nat.reduceSub, Nat.reduceMul, Nat.reduceDiv, Nat.reduceMod, Nat.reduceLT, Nat.reduceLeDiff, Nat.reduceEqDiff, Nat.reduceBEq, Nat.reduceBNe, Nat.reduceGT, Int.reduceAdd, Int.reduceSub, Int.reduceMul, Int.reduceNeg, Int.reduceLT, Int.reduceLE, Int.reduceEq, Int.reduceNe, Int.reduceBEq, Int.reduceBNe, Int.reduceToNat, Int.reduceGT, Int.reduceGE, ↓reduceIte, decide_true, decide_false, hn]
    have e3 : n.tmod by_ + by_ = n % by_ := by
      rw [e] at hn ⊢
      split at hn
      · omega
      · rename_i hc
        rw [if_neg hc]
        have : (by_.natAbs : Int) = by_ := by omega
        omega
    rw [e3, wrap_in (by omega) (by omega)]
  · simp (decide := true) (maxSteps := 4000000) only [go_sem, Nat.reduceAdd, Nat.reduceSub, Nat.reduceMul, Nat.reduceDiv, Nat.reduceMod, Nat.reduceLT, Nat.reduceLeDiff, Nat.reduceEqDiff, Nat.reduceBEq, Nat.reduceBNe, Nat.reduceGT, Int.reduceAdd, Int.reduceSub, Int.reduceMul, Int.reduceNeg, Int.reduceLT, Int.reduceLE, Int.reduceEq, Int.reduceNe, Int.reduceBEq, Int.reduceBNe, Int.reduceToNat, Int.reduceGT, Int.reduceGE, ↓reduceIte, decide_true, decide_false, hn]
    rw [e] at hn ⊢
    split at hn
    · rename_i hc; rw [if_pos hc]; simp
    · rename_i hc
      have : (by_.natAbs : Int) = by_ := by omega
      omega
theorem Abs_c (n : Int) : PCalls Tryd.prog 27 [.int .i64 n] (.int .i64 (max n (IntKind.i64.wrap (0 - n)))) := by
  refine pcalls_by Tryd.mixes noSpec_ok (fn := Tryd.f27) Tryd.func27 rfl (by kernel_rfl) (by show 1 ≤ _; decide) ?_
  simp (decide := true) (maxSteps := 4000000) only [go_sem, Nat.reduceAdd, Nat.reduceSub, Nat.reduceMul, Nat.reduceDiv, Nat.reduceMod, Nat.reduceLT, Nat.reduceLeDiff, Nat.reduceEqDiff, Nat.reduceBEq, Nat.reduceBNe, Nat.reduceGT, Int.reduceAdd, Int.reduceSub, Int.reduceMul, Int.reduceNeg, Int.reduceLT, Int.reduceLE, Int.reduceEq, Int.reduceNe, Int.reduceBEq, Int.reduceBNe, Int.reduceToNat, Int.reduceGT, Int.reduceGE, ↓reduceIte, decide_true, decide_false, Tryd.f27]
def gMod : List TV → Option TV
  | [.int .i64 n, .int .i64 b] => if 0 < b ∧ b ≤ 9223372036854775807 then some (.int .i64 (n % b)) else none
  | _ => none
theorem gMod_ok : ∀ xs r, gMod xs = some r → PCalls Tryd.prog 16 xs r := by
  intro xs r h
  unfold gMod at h
  split at h
  · split at h
    · rename_i hc; cases h; exact Mod_c _ _ hc.1 hc.2
    · cases h
  · cases h
def gAbs : List TV → Option TV
  | [.int .i64 n] => some (.int .i64 (max n (IntKind.i64.wrap (0 - n))))
  | _ => none
theorem gAbs_ok : ∀ xs r, gAbs xs = some r → PCalls Tryd.prog 27 xs r := by
  intro xs r h
  unfold gAbs at h
  split at h
  · cases h; exact Abs_c _
  · cases h
def spB1 : Pm.Spec := (spIn.one 16 gMod).one 27 gAbs
attribute [go_sem] gMod gAbs
@[go_sem] theorem spB1_p (f : FuncId) (xs : List TV) : spB1.p f xs = Pm.Spec.p ((spIn.one 16 gMod).one 27 gAbs) f xs := rfl
@[go_sem] theorem spB1_h (f : FuncId) (ps : List PV) (hl : List PO) : spB1.h f ps hl = Pm.Spec.h ((spIn.one 16 gMod).one 27 gAbs) f ps hl := rfl
@[go_sem] theorem spB1_y (Y : Pm.YS) (f : FuncId) (ps : List PV) (hl : List PO) : spB1.y Y f ps hl = Pm.Spec.y ((spIn.one 16 gMod).one 27 gAbs) Y f ps hl := rfl
@[go_sem] theorem spB1_fz (f : FuncId) : spB1.fz f = Pm.Spec.fz ((spIn.one 16 gMod).one 27 gAbs) f := rfl
@[go_sem] theorem spB1_fr (f : FuncId) : spB1.fr f = Pm.Spec.fr ((spIn.one 16 gMod).one 27 gAbs) f := rfl
@[go_sem] theorem spB1_yf (f : FuncId) : spB1.yf f = Pm.Spec.yf ((spIn.one 16 gMod).one 27 gAbs) f := rfl
@[go_sem] theorem spB1_gd : spB1.gd = Pm.Spec.gd ((spIn.one 16 gMod).one 27 gAbs) := rfl
@[go_sem] theorem spB1_mu (t : TypeId) : spB1.mu t = Pm.Spec.mu ((spIn.one 16 gMod).one 27 gAbs) t := rfl
@[go_sem] theorem spB1_nf (t : TypeId) : spB1.nf t = Pm.Spec.nf ((spIn.one 16 gMod).one 27 gAbs) t := rfl
theorem spB1_ok : SpecOk Tryd.prog spB1 := Spec.one_ok gAbs_ok (Spec.one_ok gMod_ok spIn_ok)
/-- Numbers whose sums and differences fit. -/
def Mid (n : Int) : Prop := -4000000000000000000 ≤ n ∧ n ≤ 4000000000000000000
theorem tdiv_floor {a b : Int} (h : 0 < b) : (a - a % b).tdiv b = a / b := by
  have h1 : a - a % b = b * (a / b) := by have := Int.mul_ediv_add_emod a b; omega
  rw [h1, Int.mul_tdiv_cancel_left _ (by omega)]
theorem div_mid {a b : Int} (ha : Mid a) (h : 0 < b) : Mid (a / b) ∨ False := by
  refine .inl ⟨?_, ?_⟩
  · have := Int.ediv_le_ediv h ha.1
    rcases Int.lt_or_le a 0 with h0 | h0
    · have h2 : a ≤ a / b := by
        rw [Int.le_ediv_iff_mul_le h]
        have : a * b ≤ a * 1 := Int.mul_le_mul_of_nonpos_left (by omega) (by omega)
        omega
      have := ha.1; omega
    · have := Int.ediv_nonneg h0 (by omega : 0 ≤ b); omega
  · rcases Int.lt_or_le a 0 with h0 | h0
    · have : a / b < 0 := Int.ediv_neg_of_neg_of_pos h0 h
      omega
    · have := Int.ediv_le_self b h0; have := ha.2; omega
def gDown : List TV → Option TV
  | [.int .i64 a, .int .i64 b] => if (-4000000000000000000 ≤ a ∧ a ≤ 4000000000000000000) ∧ 0 < b ∧ b ≤ 4000000000000000000 then some (.int .i64 (a / b)) else none
  | _ => none
attribute [go_sem] gDown
def gUp : List TV → Option TV
  | [.int .i64 a, .int .i64 b] => if (-4000000000000000000 ≤ a ∧ a ≤ 4000000000000000000) ∧ 0 < b ∧ b ≤ 4000000000000000000 then some (.int .i64 (-((-a) / b))) else none
  | _ => none
def gChosen : List TV → Option TV
  | [.int .i64 a, .int .i64 b, .int .i64 n] => if (-9223372036854775808 ≤ a ∧ a ≤ 9223372036854775807) ∧ -9223372036854775808 ≤ b ∧ b ≤ 9223372036854775807 then some (.int .i64 (chosen a b n)) else none
  | _ => none
theorem Before_c (a b : List Int) (fa fb : Bool) (ha : a.length ≤ 9223372036854775806) (hb : b.length ≤ 9223372036854775806) : PCalls Tryd.prog 53 [.sl (ints a) a.length fa, .sl (ints b) b.length fb] (.bool (before a b)) := by
  refine pcalls_by Tryd.mixes noSpec_ok (fn := Tryd.f53) Tryd.func53 rfl (by kernel_rfl) (by show 2 ≤ _; decide) ?_
  simp (decide := true) (maxSteps := 4000000) only [go_sem, Nat.reduceAdd, Nat.reduceSub, Nat.reduceMul, Nat.reduceDiv, Nat.reduceMod, Nat.reduceLT, Nat.reduceLeDiff, Nat.reduceEqDiff, Nat.reduceBEq, Nat.reduceBNe, Nat.reduceGT, Int.reduceAdd, Int.reduceSub, Int.reduceMul, Int.reduceNeg, Int.reduceLT, Int.reduceLE, Int.reduceEq, Int.reduceNe, Int.reduceBEq, Int.reduceBNe, Int.reduceToNat, Int.reduceGT, Int.reduceGE, ↓reduceIte, decide_true, decide_false, eq_self, Nat.mul_one, Nat.zero_mul, Nat.one_mul, Int.le_refl, Nat.le_refl, Int.cast_ofNat_Int, Tryd.f53]
  refine pwpC_loopU (A := { k : Nat // k ≤ min a.length b.length ∧ before a b = before (a.drop k) (b.drop k) }) [0, 1] (fun k => [(5, .t (.int .i64 k.1))]) (fun k => []) (fun k => min a.length b.length - k.1) ⟨0, by omega, rfl⟩ (by decide) (fun _ => by rfl) ?_ fun Q1 hQ1 ⟨k, hk, hbf⟩ I1 hI1 => ?_
  · simp (decide := true) (maxSteps := 4000000) only [go_sem, Nat.reduceAdd, Nat.reduceSub, Nat.reduceMul, Nat.reduceDiv, Nat.reduceMod, Nat.reduceLT, Nat.reduceLeDiff, Nat.reduceEqDiff, Nat.reduceBEq, Nat.reduceBNe, Nat.reduceGT, Int.reduceAdd, Int.reduceSub, Int.reduceMul, Int.reduceNeg, Int.reduceLT, Int.reduceLE, Int.reduceEq, Int.reduceNe, Int.reduceBEq, Int.reduceBNe, Int.reduceToNat, Int.reduceGT, Int.reduceGE, ↓reduceIte, decide_true, decide_false, eq_self, Nat.mul_one, Nat.zero_mul, Nat.one_mul, Int.le_refl, Nat.le_refl, Int.cast_ofNat_Int]
  · by_cases hlt : (k : Int) < min (a.length : Int) b.length
    · have hc1 : IntKind.i64.wrap (k + 1) = ((k + 1 : Nat) : Int) := by rw [wrap_in (by omega) (by omega)]; omega
      have hka : (k : Int) < a.length := by omega
      have hkb : (k : Int) < b.length := by omega
      obtain ⟨x, hx⟩ := get_lt hka
      obtain ⟨y, hy⟩ := get_lt hkb
      have da : a.drop k = x :: a.drop (k + 1) := by rw [List.drop_eq_getElem_cons (by omega)]; rw [List.getElem?_eq_getElem (by omega)] at hx; cases hx; rfl
      have db : b.drop k = y :: b.drop (k + 1) := by rw [List.drop_eq_getElem_cons (by omega)]; rw [List.getElem?_eq_getElem (by omega)] at hy; cases hy; rfl
      have ia := ints_at hx
      have ib := ints_at hy
      rw [Nat.mul_one] at ia ib
      rw [da, db] at hbf
      simp only [before] at hbf
      by_cases h1 : x < y
      · rw [if_pos h1] at hbf
        simp (decide := true) (maxSteps := 4000000) only [go_sem, Nat.reduceAdd, Nat.reduceSub, Nat.reduceMul, Nat.reduceDiv, Nat.reduceMod, Nat.reduceLT, Nat.reduceLeDiff, Nat.reduceEqDiff, Nat.reduceBEq, Nat.reduceBNe, Nat.reduceGT, Int.reduceAdd, Int.reduceSub, Int.reduceMul, Int.reduceNeg, Int.reduceLT, Int.reduceLE, Int.reduceEq, Int.reduceNe, Int.reduceBEq, Int.reduceBNe, Int.reduceToNat, Int.reduceGT, Int.reduceGE, ↓reduceIte, decide_true, decide_false, eq_self, Nat.mul_one, Nat.zero_mul, Nat.one_mul, Int.le_refl, Nat.le_refl, Int.cast_ofNat_Int, hlt, hka, hkb, ia, ib, h1, hbf]
        try (refine hQ1 _ _ ?_; simp (decide := true) (maxSteps := 4000000) only [go_sem, Nat.reduceAdd, Nat.reduceSub, Nat.reduceMul, Nat.reduceDiv, Nat.reduceMod, Nat.reduceLT, Nat.reduceLeDiff, Nat.reduceEqDiff, Nat.reduceBEq, Nat.reduceBNe, Nat.reduceGT, Int.reduceAdd, Int.reduceSub, Int.reduceMul, Int.reduceNeg, Int.reduceLT, Int.reduceLE, Int.reduceEq, Int.reduceNe, Int.reduceBEq, Int.reduceBNe, Int.reduceToNat, Int.reduceGT, Int.reduceGE, ↓reduceIte, decide_true, decide_false, eq_self, Nat.mul_one, Nat.zero_mul, Nat.one_mul, Int.le_refl, Nat.le_refl, Int.cast_ofNat_Int, hbf])
      · rw [if_neg h1] at hbf
        by_cases h2 : y < x
        · rw [if_pos h2] at hbf
          have h2' : x > y := h2
          simp (decide := true) (maxSteps := 4000000) only [go_sem, Nat.reduceAdd, Nat.reduceSub, Nat.reduceMul, Nat.reduceDiv, Nat.reduceMod, Nat.reduceLT, Nat.reduceLeDiff, Nat.reduceEqDiff, Nat.reduceBEq, Nat.reduceBNe, Nat.reduceGT, Int.reduceAdd, Int.reduceSub, Int.reduceMul, Int.reduceNeg, Int.reduceLT, Int.reduceLE, Int.reduceEq, Int.reduceNe, Int.reduceBEq, Int.reduceBNe, Int.reduceToNat, Int.reduceGT, Int.reduceGE, ↓reduceIte, decide_true, decide_false, eq_self, Nat.mul_one, Nat.zero_mul, Nat.one_mul, Int.le_refl, Nat.le_refl, Int.cast_ofNat_Int, hlt, hka, hkb, ia, ib, h1, h2', hbf]
          try (refine hQ1 _ _ ?_; simp (decide := true) (maxSteps := 4000000) only [go_sem, Nat.reduceAdd, Nat.reduceSub, Nat.reduceMul, Nat.reduceDiv, Nat.reduceMod, Nat.reduceLT, Nat.reduceLeDiff, Nat.reduceEqDiff, Nat.reduceBEq, Nat.reduceBNe, Nat.reduceGT, Int.reduceAdd, Int.reduceSub, Int.reduceMul, Int.reduceNeg, Int.reduceLT, Int.reduceLE, Int.reduceEq, Int.reduceNe, Int.reduceBEq, Int.reduceBNe, Int.reduceToNat, Int.reduceGT, Int.reduceGE, ↓reduceIte, decide_true, decide_false, eq_self, Nat.mul_one, Nat.zero_mul, Nat.one_mul, Int.le_refl, Nat.le_refl, Int.cast_ofNat_Int, hbf])
        · rw [if_neg h2] at hbf
          have h2' : ¬ x > y := h2
          simp (decide := true) (maxSteps := 4000000) only [go_sem, Nat.reduceAdd, Nat.reduceSub, Nat.reduceMul, Nat.reduceDiv, Nat.reduceMod, Nat.reduceLT, Nat.reduceLeDiff, Nat.reduceEqDiff, Nat.reduceBEq, Nat.reduceBNe, Nat.reduceGT, Int.reduceAdd, Int.reduceSub, Int.reduceMul, Int.reduceNeg, Int.reduceLT, Int.reduceLE, Int.reduceEq, Int.reduceNe, Int.reduceBEq, Int.reduceBNe, Int.reduceToNat, Int.reduceGT, Int.reduceGE, ↓reduceIte, decide_true, decide_false, eq_self, Nat.mul_one, Nat.zero_mul, Nat.one_mul, Int.le_refl, Nat.le_refl, Int.cast_ofNat_Int, hlt, hka, hkb, ia, ib, h1, h2']
          refine hI1 _ ⟨k + 1, by omega, hbf⟩ (by simp only; omega) ?_
          simp (decide := true) (maxSteps := 4000000) only [go_sem, Nat.reduceAdd, Nat.reduceSub, Nat.reduceMul, Nat.reduceDiv, Nat.reduceMod, Nat.reduceLT, Nat.reduceLeDiff, Nat.reduceEqDiff, Nat.reduceBEq, Nat.reduceBNe, Nat.reduceGT, Int.reduceAdd, Int.reduceSub, Int.reduceMul, Int.reduceNeg, Int.reduceLT, Int.reduceLE, Int.reduceEq, Int.reduceNe, Int.reduceBEq, Int.reduceBNe, Int.reduceToNat, Int.reduceGT, Int.reduceGE, ↓reduceIte, decide_true, decide_false, eq_self, Nat.mul_one, Nat.zero_mul, Nat.one_mul, Int.le_refl, Nat.le_refl, Int.cast_ofNat_Int, hc1]
    · simp (decide := true) (maxSteps := 4000000) only [go_sem, Nat.reduceAdd, Nat.reduceSub, Nat.reduceMul, Nat.reduceDiv, Nat.reduceMod, Nat.reduceLT, Nat.reduceLeDiff, Nat.reduceEqDiff, Nat.reduceBEq, Nat.reduceBNe, Nat.reduceGT, Int.reduceAdd, Int.reduceSub, Int.reduceMul, Int.reduceNeg, Int.reduceLT, Int.reduceLE, Int.reduceEq, Int.reduceNe, Int.reduceBEq, Int.reduceBNe, Int.reduceToNat, Int.reduceGT, Int.reduceGE, ↓reduceIte, decide_true, decide_false, eq_self, Nat.mul_one, Nat.zero_mul, Nat.one_mul, Int.le_refl, Nat.le_refl, Int.cast_ofNat_Int, hlt]
      refine hQ1 _ _ ?_
      have e : before a b = decide ((a.length : Int) < b.length) := by
        rw [hbf, before_end]
        · simp only [List.length_drop]
          rw [decide_eq_decide]
          omega
        · rcases Nat.le_total a.length b.length with h | h
          · exact .inl (List.drop_eq_nil_of_le (by omega))
          · exact .inr (List.drop_eq_nil_of_le (by omega))
      simp (decide := true) (maxSteps := 4000000) only [go_sem, Nat.reduceAdd, Nat.reduceSub, Nat.reduceMul, Nat.reduceDiv, Nat.reduceMod, Nat.reduceLT, Nat.reduceLeDiff, Nat.reduceEqDiff, Nat.reduceBEq, Nat.reduceBNe, Nat.reduceGT, Int.reduceAdd, Int.reduceSub, Int.reduceMul, Int.reduceNeg, Int.reduceLT, Int.reduceLE, Int.reduceEq, Int.reduceNe, Int.reduceBEq, Int.reduceBNe, Int.reduceToNat, Int.reduceGT, Int.reduceGE, ↓reduceIte, decide_true, decide_false, eq_self, Nat.mul_one, Nat.zero_mul, Nat.one_mul, Int.le_refl, Nat.le_refl, Int.cast_ofNat_Int, e]
noncomputable def gBefore : List TV → Option TV
  | [.sl cs n f, .sl cs' n' f'] => match unI cs, unI cs' with
    | some a, some b => if n = a.length ∧ n' = b.length ∧ a.length ≤ 62 ∧ b.length ≤ 62 then some (.bool (before a b)) else none
    | _, _ => none
  | _ => none
theorem gBefore_ok : ∀ xs r, gBefore xs = some r → PCalls Tryd.prog 53 xs r := by
  intro xs r h
  unfold gBefore at h
  split at h
  · split at h
    · rename_i a b ha hb
      split at h
      · rename_i hc; cases h
        have e1 := unI_some ha
        have e2 := unI_some hb
        rw [ic_ints] at e1 e2
        obtain ⟨rfl, rfl, h1, h2⟩ := hc
        rw [e1, e2]
        exact Before_c a b _ _ (by omega) (by omega)
      · cases h
    · cases h
  · cases h
theorem Same_c {a b : List Int} {s t : TV} (hs : IsRow ic s a) (ht : IsRow ic t b) (ha : a.length ≤ 9223372036854775806) : PCalls Tryd.prog 21 [s, t] (.bool (decide (a = b))) := by
  refine pcalls_by Tryd.mixes noSpec_ok (fn := Tryd.f21) Tryd.func21 rfl (by kernel_rfl) (by show 2 ≤ _; decide) ?_
  by_cases hl : a.length = b.length
  · by_cases h0 : a.length = 0
    · have ea : a = [] := List.length_eq_zero_iff.1 h0
      have eb : b = [] := List.length_eq_zero_iff.1 (by omega)
      subst ea; subst eb
      rcases hs with ⟨rfl, _⟩ | ⟨f1, rfl⟩ <;> rcases ht with ⟨rfl, _⟩ | ⟨f2, rfl⟩
      all_goals
        simp (decide := true) (maxSteps := 4000000) only [go_sem, Nat.reduceAdd, Nat.reduceSub, Nat.reduceMul, Nat.reduceDiv, Nat.reduceMod, Nat.reduceLT, Nat.reduceLeDiff, Nat.reduceEqDiff, Nat.reduceBEq, Nat.reduceBNe, Nat.reduceGT, Int.reduceAdd, Int.reduceSub, Int.reduceMul, Int.reduceNeg, Int.reduceLT, Int.reduceLE, Int.reduceEq, Int.reduceNe, Int.reduceBEq, Int.reduceBNe, Int.reduceToNat, Int.reduceGT, Int.reduceGE, ↓reduceIte, decide_true, decide_false, eq_self, Nat.mul_one, Nat.zero_mul, Nat.one_mul, Int.le_refl, Nat.le_refl, Int.cast_ofNat_Int, Tryd.f21, List.length_nil, bne_self_eq_false]
        refine pwpC_loopU (A := Unit) [0, 1] (fun _ => [(5, .t (.int .i64 0))]) (fun _ => []) (fun _ => 0) () (by decide) (fun _ => by rfl) ?_ fun Q1 hQ1 _ I1 hI1 => ?_
        · simp (decide := true) (maxSteps := 4000000) only [go_sem, Nat.reduceAdd, Nat.reduceSub, Nat.reduceMul, Nat.reduceDiv, Nat.reduceMod, Nat.reduceLT, Nat.reduceLeDiff, Nat.reduceEqDiff, Nat.reduceBEq, Nat.reduceBNe, Nat.reduceGT, Int.reduceAdd, Int.reduceSub, Int.reduceMul, Int.reduceNeg, Int.reduceLT, Int.reduceLE, Int.reduceEq, Int.reduceNe, Int.reduceBEq, Int.reduceBNe, Int.reduceToNat, Int.reduceGT, Int.reduceGE, ↓reduceIte, decide_true, decide_false, eq_self, Nat.mul_one, Nat.zero_mul, Nat.one_mul, Int.le_refl, Nat.le_refl, Int.cast_ofNat_Int]
        · simp (decide := true) (maxSteps := 4000000) only [go_sem, Nat.reduceAdd, Nat.reduceSub, Nat.reduceMul, Nat.reduceDiv, Nat.reduceMod, Nat.reduceLT, Nat.reduceLeDiff, Nat.reduceEqDiff, Nat.reduceBEq, Nat.reduceBNe, Nat.reduceGT, Int.reduceAdd, Int.reduceSub, Int.reduceMul, Int.reduceNeg, Int.reduceLT, Int.reduceLE, Int.reduceEq, Int.reduceNe, Int.reduceBEq, Int.reduceBNe, Int.reduceToNat, Int.reduceGT, Int.reduceGE, ↓reduceIte, decide_true, decide_false, eq_self, Nat.mul_one, Nat.zero_mul, Nat.one_mul, Int.le_refl, Nat.le_refl, Int.cast_ofNat_Int, List.length_nil]
          refine hQ1 _ _ ?_
          simp (decide := true) (maxSteps := 4000000) only [go_sem, Nat.reduceAdd, Nat.reduceSub, Nat.reduceMul, Nat.reduceDiv, Nat.reduceMod, Nat.reduceLT, Nat.reduceLeDiff, Nat.reduceEqDiff, Nat.reduceBEq, Nat.reduceBNe, Nat.reduceGT, Int.reduceAdd, Int.reduceSub, Int.reduceMul, Int.reduceNeg, Int.reduceLT, Int.reduceLE, Int.reduceEq, Int.reduceNe, Int.reduceBEq, Int.reduceBNe, Int.reduceToNat, Int.reduceGT, Int.reduceGE, ↓reduceIte, decide_true, decide_false, eq_self, Nat.mul_one, Nat.zero_mul, Nat.one_mul, Int.le_refl, Nat.le_refl, Int.cast_ofNat_Int]
    · obtain ⟨f1, rfl⟩ := hs.ne (by omega)
      obtain ⟨f2, rfl⟩ := ht.ne (by omega)
      rw [ic_ints, ic_ints]
      have hl' : ((a.length : Int) != (b.length : Int)) = false := bne_int_f (by omega)
      simp (decide := true) (maxSteps := 4000000) only [go_sem, Nat.reduceAdd, Nat.reduceSub, Nat.reduceMul, Nat.reduceDiv, Nat.reduceMod, Nat.reduceLT, Nat.reduceLeDiff, Nat.reduceEqDiff, Nat.reduceBEq, Nat.reduceBNe, Nat.reduceGT, Int.reduceAdd, Int.reduceSub, Int.reduceMul, Int.reduceNeg, Int.reduceLT, Int.reduceLE, Int.reduceEq, Int.reduceNe, Int.reduceBEq, Int.reduceBNe, Int.reduceToNat, Int.reduceGT, Int.reduceGE, ↓reduceIte, decide_true, decide_false, eq_self, Nat.mul_one, Nat.zero_mul, Nat.one_mul, Int.le_refl, Nat.le_refl, Int.cast_ofNat_Int, Tryd.f21, hl']
      refine pwpC_loopU (A := { k : Nat // a.take k = b.take k ∧ k ≤ a.length }) [0, 1] (fun k => [(5, .t (.int .i64 k.1))]) (fun k => []) (fun k => a.length - k.1) ⟨0, by simp⟩ (by decide) (fun _ => by rfl) ?_ fun Q1 hQ1 ⟨k, hk, hka⟩ I1 hI1 => ?_
      · simp (decide := true) (maxSteps := 4000000) only [go_sem, Nat.reduceAdd, Nat.reduceSub, Nat.reduceMul, Nat.reduceDiv, Nat.reduceMod, Nat.reduceLT, Nat.reduceLeDiff, Nat.reduceEqDiff, Nat.reduceBEq, Nat.reduceBNe, Nat.reduceGT, Int.reduceAdd, Int.reduceSub, Int.reduceMul, Int.reduceNeg, Int.reduceLT, Int.reduceLE, Int.reduceEq, Int.reduceNe, Int.reduceBEq, Int.reduceBNe, Int.reduceToNat, Int.reduceGT, Int.reduceGE, ↓reduceIte, decide_true, decide_false, eq_self, Nat.mul_one, Nat.zero_mul, Nat.one_mul, Int.le_refl, Nat.le_refl, Int.cast_ofNat_Int]
      · by_cases hlt : (k : Int) < a.length
        · have hltb : (k : Int) < b.length := by omega
          obtain ⟨x, hx⟩ := get_lt hlt
          obtain ⟨y, hy⟩ := get_lt hltb
          have d1 := ints_at hx
          have d2 := ints_at hy
          rw [Nat.mul_one] at d1 d2
          have hc1 : IntKind.i64.wrap (k + 1) = ((k + 1 : Nat) : Int) := by rw [wrap_in (by omega) (by omega)]; omega
          by_cases hxy : x = y
          · subst hxy
            simp (decide := true) (maxSteps := 4000000) only [go_sem, Nat.reduceAdd, Nat.reduceSub, Nat.reduceMul, Nat.reduceDiv, Nat.reduceMod, Nat.reduceLT, Nat.reduceLeDiff, Nat.reduceEqDiff, Nat.reduceBEq, Nat.reduceBNe, Nat.reduceGT, Int.reduceAdd, Int.reduceSub, Int.reduceMul, Int.reduceNeg, Int.reduceLT, Int.reduceLE, Int.reduceEq, Int.reduceNe, Int.reduceBEq, Int.reduceBNe, Int.reduceToNat, Int.reduceGT, Int.reduceGE, ↓reduceIte, decide_true, decide_false, eq_self, Nat.mul_one, Nat.zero_mul, Nat.one_mul, Int.le_refl, Nat.le_refl, Int.cast_ofNat_Int, hlt, hltb, d1, d2, bne_self_eq_false]
            refine hI1 _ ⟨k + 1, by rw [take_snoc hx, take_snoc hy, hk], by omega⟩ (by simp only; omega) ?_
            simp (decide := true) (maxSteps := 4000000) only [go_sem, Nat.reduceAdd, Nat.reduceSub, Nat.reduceMul, Nat.reduceDiv, Nat.reduceMod, Nat.reduceLT, Nat.reduceLeDiff, Nat.reduceEqDiff, Nat.reduceBEq, Nat.reduceBNe, Nat.reduceGT, Int.reduceAdd, Int.reduceSub, Int.reduceMul, Int.reduceNeg, Int.reduceLT, Int.reduceLE, Int.reduceEq, Int.reduceNe, Int.reduceBEq, Int.reduceBNe, Int.reduceToNat, Int.reduceGT, Int.reduceGE, ↓reduceIte, decide_true, decide_false, eq_self, Nat.mul_one, Nat.zero_mul, Nat.one_mul, Int.le_refl, Nat.le_refl, Int.cast_ofNat_Int, hc1]
          · have hb : (x != y) = true := bne_int_t hxy
            simp (decide := true) (maxSteps := 4000000) only [go_sem, Nat.reduceAdd, Nat.reduceSub, Nat.reduceMul, Nat.reduceDiv, Nat.reduceMod, Nat.reduceLT, Nat.reduceLeDiff, Nat.reduceEqDiff, Nat.reduceBEq, Nat.reduceBNe, Nat.reduceGT, Int.reduceAdd, Int.reduceSub, Int.reduceMul, Int.reduceNeg, Int.reduceLT, Int.reduceLE, Int.reduceEq, Int.reduceNe, Int.reduceBEq, Int.reduceBNe, Int.reduceToNat, Int.reduceGT, Int.reduceGE, ↓reduceIte, decide_true, decide_false, eq_self, Nat.mul_one, Nat.zero_mul, Nat.one_mul, Int.le_refl, Nat.le_refl, Int.cast_ofNat_Int, hlt, hltb, d1, d2, hb]
            refine hQ1 _ _ ?_
            have : decide (a = b) = false := by
              rw [decide_eq_false_iff_not]
              rintro rfl
              rw [hx] at hy; cases hy; exact hxy rfl
            simp (decide := true) (maxSteps := 4000000) only [go_sem, Nat.reduceAdd, Nat.reduceSub, Nat.reduceMul, Nat.reduceDiv, Nat.reduceMod, Nat.reduceLT, Nat.reduceLeDiff, Nat.reduceEqDiff, Nat.reduceBEq, Nat.reduceBNe, Nat.reduceGT, Int.reduceAdd, Int.reduceSub, Int.reduceMul, Int.reduceNeg, Int.reduceLT, Int.reduceLE, Int.reduceEq, Int.reduceNe, Int.reduceBEq, Int.reduceBNe, Int.reduceToNat, Int.reduceGT, Int.reduceGE, ↓reduceIte, decide_true, decide_false, eq_self, Nat.mul_one, Nat.zero_mul, Nat.one_mul, Int.le_refl, Nat.le_refl, Int.cast_ofNat_Int, this]
        · have hke : k = a.length := by omega
          subst hke
          simp (decide := true) (maxSteps := 4000000) only [go_sem, Nat.reduceAdd, Nat.reduceSub, Nat.reduceMul, Nat.reduceDiv, Nat.reduceMod, Nat.reduceLT, Nat.reduceLeDiff, Nat.reduceEqDiff, Nat.reduceBEq, Nat.reduceBNe, Nat.reduceGT, Int.reduceAdd, Int.reduceSub, Int.reduceMul, Int.reduceNeg, Int.reduceLT, Int.reduceLE, Int.reduceEq, Int.reduceNe, Int.reduceBEq, Int.reduceBNe, Int.reduceToNat, Int.reduceGT, Int.reduceGE, ↓reduceIte, decide_true, decide_false, eq_self, Nat.mul_one, Nat.zero_mul, Nat.one_mul, Int.le_refl, Nat.le_refl, Int.cast_ofNat_Int, hlt]
          refine hQ1 _ _ ?_
          have : decide (a = b) = true := by
            rw [decide_eq_true_eq]
            rwa [List.take_length, List.take_of_length_le (by omega)] at hk
          simp (decide := true) (maxSteps := 4000000) only [go_sem, Nat.reduceAdd, Nat.reduceSub, Nat.reduceMul, Nat.reduceDiv, Nat.reduceMod, Nat.reduceLT, Nat.reduceLeDiff, Nat.reduceEqDiff, Nat.reduceBEq, Nat.reduceBNe, Nat.reduceGT, Int.reduceAdd, Int.reduceSub, Int.reduceMul, Int.reduceNeg, Int.reduceLT, Int.reduceLE, Int.reduceEq, Int.reduceNe, Int.reduceBEq, Int.reduceBNe, Int.reduceToNat, Int.reduceGT, Int.reduceGE, ↓reduceIte, decide_true, decide_false, eq_self, Nat.mul_one, Nat.zero_mul, Nat.one_mul, Int.le_refl, Nat.le_refl, Int.cast_ofNat_Int, this]
  · have hl' : ((a.length : Int) != (b.length : Int)) = true := bne_int_t (by omega)
    have hd : decide (a = b) = false := by
      rw [decide_eq_false_iff_not]
      rintro rfl; exact hl rfl
    rcases hs with ⟨rfl, rfl⟩ | ⟨f1, rfl⟩ <;> rcases ht with ⟨rfl, rfl⟩ | ⟨f2, rfl⟩
    · exact absurd rfl hl
    all_goals
      try simp only [List.length_nil, Int.cast_ofNat_Int] at hl'
      simp (decide := true) (maxSteps := 4000000) only [go_sem, Nat.reduceAdd, Nat.reduceSub, Nat.reduceMul, Nat.reduceDiv, Nat.reduceMod, Nat.reduceLT, Nat.reduceLeDiff, Nat.reduceEqDiff, Nat.reduceBEq, Nat.reduceBNe, Nat.reduceGT, Int.reduceAdd, Int.reduceSub, Int.reduceMul, Int.reduceNeg, Int.reduceLT, Int.reduceLE, Int.reduceEq, Int.reduceNe, Int.reduceBEq, Int.reduceBNe, Int.reduceToNat, Int.reduceGT, Int.reduceGE, ↓reduceIte, decide_true, decide_false, eq_self, Nat.mul_one, Nat.zero_mul, Nat.one_mul, Int.le_refl, Nat.le_refl, Int.cast_ofNat_Int, Tryd.f21, hl', hd]
noncomputable def gSame : List TV → Option TV
  | [s, t] => match rowL unI s, rowL unI t with
    | some a, some b => if a.length ≤ 9223372036854775806 then some (.bool (decide (a = b))) else none
    | _, _ => none
  | _ => none
theorem gSame_ok : ∀ xs r, gSame xs = some r → PCalls Tryd.prog 21 xs r := by
  intro xs r h
  unfold gSame at h
  split at h
  · split at h
    · rename_i a b ha hb
      split at h
      · rename_i hc; cases h
        exact Same_c (rowL_some (un := unI) rfl (@unI_some) ha) (rowL_some (un := unI) rfl (@unI_some) hb) hc
      · cases h
    · cases h
  · cases h
attribute [go_sem] gUp gChosen gBefore gSame
end Go.Proofs.YtlonlnfenbadbaaDoor.Ix

/- Part Ia. -/
namespace Go.Oc.Ix
end Go.Oc.Ix
namespace Go.Proofs.YtlonlnfenbadbaaDoor.Ix
end Go.Proofs.YtlonlnfenbadbaaDoor.Ix
namespace Go.Proofs.YtlonlnfenbadbaaDoor.Ix
open Go.RowKit Go.Pm Go.Oc Go.Oc.Ix
set_option maxRecDepth 100000
set_option linter.unusedVariables false

theorem slice_cells {k : Nat} {t e : TypeId} {cs : List TV} (hu : Program.underlying Tryd.prog t = some (.slice e)) (h : cellsOk Tryd.prog (k + 1) t cs) : ∃ x, cs = [x] ∧ cellsOk Tryd.prog (k + 1) t [x] := by
  have h' := h
  unfold cellsOk at h'
  rw [hu] at h'
  rcases h' with h' | ⟨rows, full, h', _⟩
  · exact ⟨_, h', by rw [← h']; exact h⟩
  · exact ⟨_, h', by rw [← h']; exact h⟩
theorem int_cells {k : Nat} {cs : List TV} (h : cellsOk Tryd.prog (k + 1) 3 cs) : ∃ n, cs = [.int .i64 n] ∧ In64 n := cellsOk_i64 (by kernel_rfl) h
theorem ints_cells {x : TV} {k : Nat} (h : cellsOk Tryd.prog (k + 2) 22 [x]) : ∃ l : List Int, IsRow ic x l ∧ l.length ≤ 17592186044415 ∧ ∀ n ∈ l, In64 n := by
  obtain ⟨l, h1, h2, h3, _⟩ := cellsOk_row (e := 3) (c := ic) (p := fun n => In64 n) (by kernel_rfl) (fun cs hc => int_cells hc) h
  rw [show Program.bytesOf Tryd.prog 3 = 8 by kernel_rfl] at h3
  unfold reachBytes at h3
  exact ⟨l, h1, by omega, h2⟩
theorem intArg {x : TV} (h : argOk Tryd.prog 3 x) : ∃ n, x = .int .i64 n ∧ In64 n := argOk_i64 (by kernel_rfl) h
theorem intsArg {x : TV} (h : argOk Tryd.prog 22 x) : ∃ l : List Int, IsRow ic x l ∧ l.length ≤ 17592186044415 ∧ ∀ n ∈ l, In64 n := ints_cells (argOk_sl (e := 3) (by kernel_rfl) h)
theorem twoArg {x : TV} (h : argOk Tryd.prog 23 x) : ∃ a b, x = .agg [.int .i64 a, .int .i64 b] ∧ In64 a ∧ In64 b := by
  obtain ⟨cs, rfl, h'⟩ := argOk_agg (ts := [3, 3]) (by kernel_rfl) h
  have h := cellsOk_tys (ts := [3, 3]) (by kernel_rfl) h'
  obtain ⟨_, r, rfl, h1, h⟩ := seqOk_cons h
  obtain ⟨_, r, rfl, h2, h⟩ := seqOk_cons h
  cases seqOk_nil h
  obtain ⟨a, rfl, ia⟩ := int_cells h1
  obtain ⟨b, rfl, ib⟩ := int_cells h2
  exact ⟨a, b, rfl, ia, ib⟩
theorem threeArg {x : TV} (h : argOk Tryd.prog 96 x) : ∃ a b c, x = .agg [.int .i64 a, .int .i64 b, .int .i64 c] ∧ In64 a ∧ In64 b ∧ In64 c := by
  obtain ⟨cs, rfl, h'⟩ := argOk_agg (ts := [3, 3, 3]) (by kernel_rfl) h
  have h := cellsOk_tys (ts := [3, 3, 3]) (by kernel_rfl) h'
  obtain ⟨_, r, rfl, h1, h⟩ := seqOk_cons h
  obtain ⟨_, r, rfl, h2, h⟩ := seqOk_cons h
  obtain ⟨_, r, rfl, h3, h⟩ := seqOk_cons h
  cases seqOk_nil h
  obtain ⟨a, rfl, ia⟩ := int_cells h1
  obtain ⟨b, rfl, ib⟩ := int_cells h2
  obtain ⟨c, rfl, ic⟩ := int_cells h3
  exact ⟨a, b, c, rfl, ia, ib, ic⟩
end Go.Proofs.YtlonlnfenbadbaaDoor.Ix

/- Part Ip. -/
namespace Go.Oc.Ix
end Go.Oc.Ix
namespace Go.Proofs.YtlonlnfenbadbaaDoor.Ix
end Go.Proofs.YtlonlnfenbadbaaDoor.Ix
namespace Go.Oc.Ix
open Go Go.Pm
set_option maxRecDepth 100000
set_option linter.unusedVariables false
/-- Heads. -/
def circOk : Int → List Int → Bool
  | _, [] => true
  | a, x :: l => inB x (a + 1) 200 && circOk x l
def headOk (t : Int) (l : List Int) : Bool := inB t 1 400 && (inB l.length 1 12 && circOk 1 l)
def nthI (l : List Int) (i : Int) : Int := l.getD i.toNat 0
theorem nthI_at {l : List Int} {k : Nat} {x : Int} (h : l[k]? = some x) : nthI l k = x := by
  unfold nthI; rw [Int.toNat_natCast, List.getD_eq_getElem?_getD, h]; rfl
theorem circ_mem : ∀ {a : Int} {l : List Int}, circOk a l = true → ∀ x ∈ l, a + 1 ≤ x ∧ x ≤ 200
  | a, [], _, x, hx => by cases hx
  | a, y :: l, h, x, hx => by
    simp only [circOk, Bool.and_eq_true, inB_iff] at h
    rcases List.mem_cons.1 hx with rfl | hx
    · exact h.1
    · have := circ_mem h.2 x hx; omega
theorem circ_lt : ∀ {a : Int} {l : List Int}, circOk a l = true → ∀ {i k : Nat} {x y : Int}, i < k → l[i]? = some x → l[k]? = some y → x < y
  | a, [], _, i, k, x, y, _, h, _ => by simp at h
  | a, z :: l, h, 0, k + 1, x, y, _, hx, hy => by
    simp only [circOk, Bool.and_eq_true, inB_iff] at h
    simp at hx hy; subst hx
    have := circ_mem h.2 y (List.mem_of_getElem? hy); omega
  | a, z :: l, h, i + 1, k + 1, x, y, hik, hx, hy => by
    simp only [circOk, Bool.and_eq_true] at h
    simp at hx hy
    exact circ_lt h.2 (by omega) hx hy
theorem headOk_iff {t : Int} {l : List Int} : headOk t l = true ↔ (1 ≤ t ∧ t ≤ 400) ∧ (1 ≤ l.length ∧ l.length ≤ 12) ∧ circOk 1 l = true := by
  simp only [headOk, Bool.and_eq_true, inB_iff]
  constructor
  · rintro ⟨a, b, c⟩; exact ⟨a, ⟨by omega, by omega⟩, c⟩
  · rintro ⟨a, b, c⟩; exact ⟨a, ⟨by omega, by omega⟩, c⟩
theorem head_at {t : Int} {l : List Int} (h : headOk t l = true) {k : Nat} {x : Int} (hx : l[k]? = some x) : 2 ≤ x ∧ x ≤ 200 := by
  have := circ_mem (headOk_iff.1 h).2.2 x (List.mem_of_getElem? hx); omega
/-- The loop over the circles, as the program goes: so far all is well, and the last one. -/
def circTo : Bool → Int → List Int → Bool
  | ok, _, [] => ok
  | ok, a, x :: l => circTo (ok && inB x (IntKind.i64.wrap (a + 1)) 200) x l
theorem circTo_false : ∀ (a : Int) (l : List Int), circTo false a l = false
  | _, [] => rfl
  | a, x :: l => by simp only [circTo, Bool.false_and]; exact circTo_false x l
theorem circTo_eq : ∀ {a : Int} {l : List Int} (ok : Bool), -9223372036854775808 ≤ a ∧ a ≤ 9223372036854775806 → circTo ok a l = (ok && circOk a l)
  | a, [], ok, _ => by simp [circTo, circOk]
  | a, x :: l, ok, h => by
    rw [circTo, wrap_in (by omega) (by omega)]
    cases hx : (ok && inB x (a + 1) 200) with
    | false =>
      rw [circTo_false, circOk, ← Bool.and_assoc, hx, Bool.false_and]
    | true =>
      simp only [Bool.and_eq_true, inB_iff] at hx
      rw [circTo_eq true ⟨by omega, by omega⟩, circOk]
      have : inB x (a + 1) 200 = true := inB_iff.2 hx.2
      rw [this, hx.1, Bool.true_and, Bool.true_and]

/-- Plans. -/
structure Pl where
  c : Int
  t : Int
  h : Int
  deriving DecidableEq
def Pl.cs (p : Pl) : List TV := [.int .i64 p.c, .int .i64 p.t, .int .i64 p.h]
def Pl.tv (p : Pl) : TV := .agg p.cs
def planAt (t h n i : Int) : Option Pl := if t * h % n = 0 then some ⟨i, t * h / n / h, t * h / n % h⟩ else none
def plansTo (t : Int) (l : List Int) (n : Int) (k : Nat) : List Pl := (List.range k).filterMap fun i : Nat => planAt t (nthI l i) n i
def plansP (t : Int) (l : List Int) (n : Int) : List Pl := plansTo t l n l.length
theorem plansTo_succ (t : Int) (l : List Int) (n : Int) (k : Nat) : plansTo t l n (k + 1) = plansTo t l n k ++ (planAt t (nthI l k) n k).toList := by
  unfold plansTo
  rw [List.range_succ, List.filterMap_append]
  simp only [List.filterMap_cons, List.filterMap_nil]
  cases planAt t (nthI l k) n k <;> rfl
theorem plansTo_len (t : Int) (l : List Int) (n : Int) (k : Nat) : (plansTo t l n k).length ≤ k := by
  unfold plansTo
  have := List.length_filterMap_le (fun i : Nat => planAt t (nthI l i) n i) (List.range k)
  simpa using this
def plansE (t : Int) (l : List Int) (n : Int) : List Pl × Int :=
  if headOk t l = false then ([], 10) else if inB n 1 20000 = false then ([], 11) else if (plansP t l n).length = 0 then ([], 4) else (plansP t l n, 0)
/-- What a plan that closes is. -/
theorem plan_spec {t h n i : Int} {p : Pl} (hn : 0 < n) (hh : 0 < h) (hp : planAt t h n i = some p) : p.c = i ∧ 0 ≤ p.h ∧ p.h < h ∧ n * (p.t * h + p.h) = t * h := by
  unfold planAt at hp
  split at hp
  · rename_i e
    cases hp
    have h1 := Int.mul_ediv_add_emod (t * h) n
    have h2 := Int.mul_ediv_add_emod (t * h / n) h
    have h3 := Int.emod_nonneg (t * h / n) (show h ≠ 0 by omega)
    have h4 := Int.emod_lt_of_pos (t * h / n) hh
    refine ⟨rfl, h3, h4, ?_⟩
    simp only
    rw [Int.mul_comm (t * h / n / h) h, h2]
    omega
  · cases hp

/-- Compound plans. -/
structure Pr where
  a : Int
  b : Int
  x : Int
  y : Int
  deriving DecidableEq
def Pr.cs (p : Pr) : List TV := [.int .i64 p.a, .int .i64 p.b, .int .i64 p.x, .int .i64 p.y]
def Pr.tv (p : Pr) : TV := .agg p.cs
def holP (p : Pr) : Int := max p.x (-p.x) + max p.y (-p.y)
/-- Of the compound plans of two circles (with a and b holes): the one that moves x holes on the first one. -/
def prAt (t a b n i k x : Int) : Option Pr :=
  if t * a * b % n = 0 ∧ (t * a * b / n - x * b) % a = 0 ∧ inB ((t * a * b / n - x * b) / a) (-2000) 2000 = true then some ⟨i, k, x, (t * a * b / n - x * b) / a⟩ else none
def prsTo (t a b n i k : Int) (m : Nat) : List Pr := (List.range m).filterMap fun j : Nat => prAt t a b n i k ((j : Int) - 2000)
def prsP (t a b n i k : Int) : List Pr := prsTo t a b n i k 4001
theorem prsTo_succ (t a b n i k : Int) (m : Nat) : prsTo t a b n i k (m + 1) = prsTo t a b n i k m ++ (prAt t a b n i k ((m : Int) - 2000)).toList := by
  unfold prsTo
  rw [List.range_succ, List.filterMap_append]
  simp only [List.filterMap_cons, List.filterMap_nil]
  cases prAt t a b n i k ((m : Int) - 2000) <;> rfl
theorem prsTo_len (t a b n i k : Int) (m : Nat) : (prsTo t a b n i k m).length ≤ m := by
  unfold prsTo
  have := List.length_filterMap_le (fun j : Nat => prAt t a b n i k ((j : Int) - 2000)) (List.range m)
  simpa using this
/-- The first one of the best of a list. -/
def minS (o : Option Pr) (p : Pr) : Option Pr := match o with
  | none => some p
  | some q => if holP p < holP q then some p else some q
def minL (l : List Pr) : Option Pr := l.foldl minS none
theorem minL_snoc (l : List Pr) (p : Pr) : minL (l ++ [p]) = minS (minL l) p := by unfold minL; rw [List.foldl_append]; rfl
theorem snocInd {α : Type} {P : List α → Prop} (h0 : P []) (h1 : ∀ l a, P l → P (l ++ [a])) (l : List α) : P l := by
  have : ∀ l : List α, P l.reverse := by
    intro l
    induction l with
    | nil => exact h0
    | cons a l ih => rw [List.reverse_cons]; exact h1 _ _ ih
  have h := this l.reverse
  rwa [List.reverse_reverse] at h
theorem minL_none : ∀ l : List Pr, minL l = none ↔ l = [] := by
  intro l
  refine snocInd (P := fun l => minL l = none ↔ l = []) (by simp [minL]) (fun l p ih => ?_) l
  rw [minL_snoc]
  unfold minS
  split
  · simp
  · split <;> simp
theorem minL_some {R : Pr → Pr → Prop} : ∀ {l : List Pr} {r : Pr}, l.Pairwise R → minL l = some r → r ∈ l ∧ ∀ c ∈ l, holP r < holP c ∨ holP r = holP c ∧ (r = c ∨ R r c) := by
  intro l
  refine snocInd (P := fun l => ∀ {r : Pr}, l.Pairwise R → minL l = some r → r ∈ l ∧ ∀ c ∈ l, holP r < holP c ∨ holP r = holP c ∧ (r = c ∨ R r c)) (fun _ h => by simp [minL] at h) (fun l p ih => ?_) l
  · intro r hR h
    rw [List.pairwise_append] at hR
    obtain ⟨h1, _, h3⟩ := hR
    rw [minL_snoc] at h
    unfold minS at h
    split at h
    · rename_i e
      cases h
      rw [minL_none] at e
      subst e
      refine ⟨by simp, fun c hc => ?_⟩
      simp at hc; subst hc; exact .inr ⟨rfl, .inl rfl⟩
    · rename_i q e
      obtain ⟨hq, hm⟩ := ih h1 e
      split at h
      · rename_i hlt
        cases h
        refine ⟨by simp, fun c hc => ?_⟩
        rcases List.mem_append.1 hc with hc | hc
        · rcases hm c hc with h | ⟨h, _⟩
          · left; omega
          · left; omega
        · simp at hc; subst hc; exact .inr ⟨rfl, .inl rfl⟩
      · rename_i hlt
        cases h
        refine ⟨by simp [hq], fun c hc => ?_⟩
        rcases List.mem_append.1 hc with hc | hc
        · exact hm c hc
        · simp at hc; subst hc
          by_cases he : holP r = holP c
          · exact .inr ⟨he, .inr (h3 r hq c (by simp))⟩
          · left; omega
/-- All compound plans, as the specification goes: by A, then by B, then by X. -/
def candK (t : Int) (l : List Int) (n : Int) (i k : Nat) : List Pr := prsP t (nthI l i) (nthI l k) n i k
def candI (t : Int) (l : List Int) (n : Int) (i m : Nat) : List Pr := (List.range' (i + 1) m).flatMap fun k => candK t l n i k
def cands (t : Int) (l : List Int) (n : Int) (m : Nat) : List Pr := (List.range m).flatMap fun i => candI t l n i (l.length - (i + 1))
def compP (t : Int) (l : List Int) (n : Int) : Option Pr := minL (cands t l n l.length)
def compE (t : Int) (l : List Int) (n : Int) : Pr × Int :=
  if headOk t l = false then (⟨0, 0, 0, 0⟩, 10) else if inB n 1 20000 = false then (⟨0, 0, 0, 0⟩, 11) else match compP t l n with
    | none => (⟨0, 0, 0, 0⟩, 4)
    | some p => (p, 0)
def befP (p q : Pr) : Prop := p.a < q.a ∨ p.a = q.a ∧ (p.b < q.b ∨ p.b = q.b ∧ p.x < q.x)
theorem prAt_eq {t a b n i k x : Int} {p : Pr} (h : prAt t a b n i k x = some p) : p.a = i ∧ p.b = k ∧ p.x = x ∧ t * a * b % n = 0 ∧ (t * a * b / n - x * b) % a = 0 ∧ p.y = (t * a * b / n - x * b) / a ∧ -2000 ≤ p.y ∧ p.y ≤ 2000 := by
  unfold prAt at h
  split at h
  · rename_i hc; cases h
    have := inB_iff.1 hc.2.2
    exact ⟨rfl, rfl, rfl, hc.1, hc.2.1, rfl, this.1, this.2⟩
  · cases h
theorem prsTo_mem {t a b n i k : Int} {m : Nat} {p : Pr} : p ∈ prsTo t a b n i k m ↔ ∃ j : Nat, j < m ∧ prAt t a b n i k ((j : Int) - 2000) = some p := by
  unfold prsTo
  rw [List.mem_filterMap]
  simp only [List.mem_range]
theorem prsTo_pw (t a b n i k : Int) (m : Nat) : (prsTo t a b n i k m).Pairwise fun p q => p.a = i ∧ q.a = i ∧ p.b = k ∧ q.b = k ∧ p.x < q.x := by
  unfold prsTo
  rw [List.pairwise_filterMap]
  refine List.Pairwise.imp ?_ List.pairwise_lt_range
  intro c d hcd p hp q hq
  have h1 := prAt_eq hp
  have h2 := prAt_eq hq
  refine ⟨h1.1, h2.1, h1.2.1, h2.2.1, ?_⟩
  rw [h1.2.2.1, h2.2.2.1]; omega
theorem candI_pw (t : Int) (l : List Int) (n : Int) (i m : Nat) : (candI t l n i m).Pairwise fun p q => p.a = (i : Int) ∧ q.a = (i : Int) ∧ (p.b < q.b ∨ p.b = q.b ∧ p.x < q.x) := by
  unfold candI
  rw [List.pairwise_flatMap]
  refine ⟨fun k _ => (prsTo_pw ..).imp fun h => ⟨h.1, h.2.1, .inr ⟨h.2.2.1.trans h.2.2.2.1.symm, h.2.2.2.2⟩⟩, ?_⟩
  refine List.Pairwise.imp ?_ List.pairwise_lt_range'
  intro c d hcd p hp q hq
  obtain ⟨j1, _, h1⟩ := prsTo_mem.1 hp
  obtain ⟨j2, _, h2⟩ := prsTo_mem.1 hq
  have h1 := prAt_eq h1
  have h2 := prAt_eq h2
  exact ⟨h1.1, h2.1, .inl (by rw [h1.2.1, h2.2.1]; omega)⟩
theorem candI_mem {t : Int} {l : List Int} {n : Int} {i m : Nat} {p : Pr} : p ∈ candI t l n i m ↔ ∃ k j : Nat, i < k ∧ k < i + 1 + m ∧ j < 4001 ∧ prAt t (nthI l i) (nthI l k) n i k ((j : Int) - 2000) = some p := by
  unfold candI
  rw [List.mem_flatMap]
  constructor
  · rintro ⟨k, hk, h⟩
    rw [List.mem_range'_1] at hk
    obtain ⟨j, h1, h2⟩ := prsTo_mem.1 h
    exact ⟨k, j, by omega, by omega, h1, h2⟩
  · rintro ⟨k, j, h1, h2, h3, h4⟩
    exact ⟨k, List.mem_range'_1.2 (by omega), prsTo_mem.2 ⟨j, h3, h4⟩⟩
theorem cands_pw (t : Int) (l : List Int) (n : Int) (m : Nat) : (cands t l n m).Pairwise befP := by
  unfold cands
  rw [List.pairwise_flatMap]
  refine ⟨fun i _ => (candI_pw ..).imp fun h => .inr ⟨h.1.trans h.2.1.symm, h.2.2⟩, ?_⟩
  refine List.Pairwise.imp ?_ List.pairwise_lt_range
  intro c d hcd p hp q hq
  obtain ⟨k1, j1, _, _, _, h1⟩ := candI_mem.1 hp
  obtain ⟨k2, j2, _, _, _, h2⟩ := candI_mem.1 hq
  have h1 := prAt_eq h1
  have h2 := prAt_eq h2
  left; rw [h1.1, h2.1]; omega
theorem cands_mem {t : Int} {l : List Int} {n : Int} {p : Pr} : p ∈ cands t l n l.length ↔ ∃ i k j : Nat, i < k ∧ k < l.length ∧ j < 4001 ∧ prAt t (nthI l i) (nthI l k) n i k ((j : Int) - 2000) = some p := by
  unfold cands
  rw [List.mem_flatMap]
  constructor
  · rintro ⟨i, hi, h⟩
    rw [List.mem_range] at hi
    obtain ⟨k, j, h1, h2, h3, h4⟩ := candI_mem.1 h
    exact ⟨i, k, j, h1, by omega, h3, h4⟩
  · rintro ⟨i, k, j, h1, h2, h3, h4⟩
    exact ⟨i, List.mem_range.2 (by omega), candI_mem.2 ⟨k, j, h1, by omega, h3, h4⟩⟩
/-- Which one it is. -/
theorem compP_some {t : Int} {l : List Int} {n : Int} {r : Pr} (h : compP t l n = some r) : r ∈ cands t l n l.length ∧ ∀ c ∈ cands t l n l.length, holP r < holP c ∨ holP r = holP c ∧ (r = c ∨ befP r c) := minL_some (cands_pw ..) h
theorem compP_none {t : Int} {l : List Int} {n : Int} : compP t l n = none ↔ cands t l n l.length = [] := minL_none _

/-- The best of a list, as the program finds it: by what is better. -/
def bestS (f : Pr → Pr → Bool) (o : Option Pr) (p : Pr) : Option Pr := match o with
  | none => some p
  | some q => if f p q then some p else some q
def bestF (f : Pr → Pr → Bool) (l : List Pr) : Option Pr := l.foldl (bestS f) none
theorem bestF_snoc (f : Pr → Pr → Bool) (l : List Pr) (p : Pr) : bestF f (l ++ [p]) = bestS f (bestF f l) p := by unfold bestF; rw [List.foldl_append]; rfl
def lessH (p q : Pr) : Bool := decide (holP p < holP q)
theorem bestF_min (l : List Pr) : bestF lessH l = minL l := by
  unfold bestF minL
  congr 1
  funext o p
  cases o with
  | none => rfl
  | some q => simp [bestS, minS, lessH]
def lessB (p q : Pr) : Bool := if holP p ≠ holP q then decide (holP p < holP q) else decide (p.a < q.a) || p.a == q.a && decide (p.b < q.b)
theorem lessB_iff {p q : Pr} : lessB p q = true ↔ holP p < holP q ∨ holP p = holP q ∧ (p.a < q.a ∨ p.a = q.a ∧ p.b < q.b) := by
  unfold lessB
  split
  · rename_i h; rw [decide_eq_true_eq]; constructor
    · exact fun h => .inl h
    · rintro (h' | ⟨h', _⟩)
      · exact h'
      · exact absurd h' h
  · rename_i h
    have h : holP p = holP q := by omega
    simp only [Bool.or_eq_true, Bool.and_eq_true, decide_eq_true_eq, beq_iff_eq]
    omega
theorem bestB_none : ∀ l : List Pr, bestF lessB l = none ↔ l = [] := by
  intro l
  refine snocInd (P := fun l => bestF lessB l = none ↔ l = []) (by simp [bestF]) (fun l p ih => ?_) l
  rw [bestF_snoc]
  unfold bestS
  split
  · simp
  · split <;> simp
theorem bestB_some : ∀ {l : List Pr} {r : Pr}, bestF lessB l = some r → r ∈ l ∧ ∀ c ∈ l, lessB c r = false := by
  intro l
  refine snocInd (P := fun l => ∀ {r : Pr}, bestF lessB l = some r → r ∈ l ∧ ∀ c ∈ l, lessB c r = false) (fun h => by simp [bestF] at h) (fun l p ih => ?_) l
  · intro r h
    rw [bestF_snoc] at h
    unfold bestS at h
    have irr : ∀ p : Pr, lessB p p = false := fun p => by
      rw [Bool.eq_false_iff]; intro h; rw [lessB_iff] at h; omega
    split at h
    · rename_i e
      cases h
      rw [bestB_none] at e
      subst e
      refine ⟨by simp, fun c hc => ?_⟩
      simp at hc; subst hc; exact irr _
    · rename_i q e
      obtain ⟨hq, hm⟩ := ih e
      split at h
      · rename_i hlt
        cases h
        refine ⟨by simp, fun c hc => ?_⟩
        rcases List.mem_append.1 hc with hc | hc
        · have h1 := hm c hc
          rw [Bool.eq_false_iff] at h1 ⊢
          intro h2
          apply h1
          rw [lessB_iff] at *
          omega
        · simp at hc; subst hc; exact irr _
      · rename_i hlt
        cases h
        refine ⟨by simp [hq], fun c hc => ?_⟩
        rcases List.mem_append.1 hc with hc | hc
        · exact hm c hc
        · simp at hc; subst hc
          simpa using hlt
def allA (t : Int) (l : List Int) (n : Int) (b m : Nat) : List Pr := (List.range m).filterMap fun a => minL (candK t l n a b)
def allB (t : Int) (l : List Int) (n : Int) (m : Nat) : List Pr := (List.range m).flatMap fun b => allA t l n b b
theorem candK_mem {t : Int} {l : List Int} {n : Int} {i k : Nat} {p : Pr} : p ∈ candK t l n i k ↔ ∃ j : Nat, j < 4001 ∧ prAt t (nthI l i) (nthI l k) n i k ((j : Int) - 2000) = some p := prsTo_mem
theorem candK_some {t : Int} {l : List Int} {n : Int} {i k : Nat} {r : Pr} (h : minL (candK t l n i k) = some r) : (r ∈ candK t l n i k ∧ r.a = i ∧ r.b = k) ∧ ∀ c ∈ candK t l n i k, holP r < holP c ∨ holP r = holP c ∧ (r = c ∨ r.x < c.x) := by
  obtain ⟨h1, h2⟩ := minL_some (prsTo_pw ..) h
  obtain ⟨j, _, hj⟩ := candK_mem.1 h1
  have hj := prAt_eq hj
  refine ⟨⟨h1, hj.1, hj.2.1⟩, fun c hc => ?_⟩
  rcases h2 c hc with h | ⟨h, h' | h'⟩
  · exact .inl h
  · exact .inr ⟨h, .inl h'⟩
  · exact .inr ⟨h, .inr h'.2.2.2.2⟩
theorem allB_mem {t : Int} {l : List Int} {n : Int} {r : Pr} : r ∈ allB t l n l.length ↔ ∃ a b : Nat, a < b ∧ b < l.length ∧ minL (candK t l n a b) = some r := by
  unfold allB allA
  simp only [List.mem_flatMap, List.mem_filterMap, List.mem_range]
  constructor
  · rintro ⟨b, hb, a, ha, h⟩; exact ⟨a, b, ha, hb, h⟩
  · rintro ⟨a, b, ha, hb, h⟩; exact ⟨b, hb, a, ha, h⟩
theorem comp_prog (t : Int) (l : List Int) (n : Int) : bestF lessB (allB t l n l.length) = compP t l n := by
  have key : ∀ {a b : Nat} {p : Pr}, a < b → b < l.length → p ∈ candK t l n a b → p ∈ cands t l n l.length := fun h1 h2 h => by
    obtain ⟨j, h3, h4⟩ := candK_mem.1 h
    exact cands_mem.2 ⟨_, _, j, h1, h2, h3, h4⟩
  cases hc : compP t l n with
  | none =>
    rw [compP_none] at hc
    rw [bestB_none]
    rw [List.eq_nil_iff_forall_not_mem]
    intro r hr
    obtain ⟨a, b, h1, h2, h3⟩ := allB_mem.1 hr
    have := key h1 h2 (candK_some h3).1.1
    rw [hc] at this; cases this
  | some r' =>
    obtain ⟨m1, m2⟩ := compP_some hc
    obtain ⟨i, k, j, h1, h2, h3, h4⟩ := cands_mem.1 m1
    have hk : r' ∈ candK t l n i k := candK_mem.2 ⟨j, h3, h4⟩
    have h4 := prAt_eq h4
    cases hs : minL (candK t l n i k) with
    | none => rw [minL_none] at hs; rw [hs] at hk; cases hk
    | some s =>
      have hsA : s ∈ allB t l n l.length := allB_mem.2 ⟨i, k, h1, h2, hs⟩
      obtain ⟨⟨s1, s2, s3⟩, s4⟩ := candK_some hs
      cases hr : bestF lessB (allB t l n l.length) with
      | none => rw [bestB_none] at hr; rw [hr] at hsA; cases hsA
      | some r =>
        obtain ⟨r1, r2⟩ := bestB_some hr
        obtain ⟨a, b, g1, g2, g3⟩ := allB_mem.1 r1
        obtain ⟨⟨t1, t2, t3⟩, t4⟩ := candK_some g3
        have q1 := m2 r (key g1 g2 t1)
        have q2 := r2 s hsA
        rw [Bool.eq_false_iff, ne_eq, lessB_iff] at q2
        have q3 := s4 r' hk
        congr 1
        have e1 : holP r = holP r' := by omega
        have e2 : holP s = holP r := by omega
        have q4 : r' = r ∨ befP r' r := by
          rcases q1 with h | ⟨_, h⟩
          · omega
          · exact h
        rcases q4 with h | h
        · exact h.symm
        · exfalso
          unfold befP at h
          have e3 : r'.a = i := h4.1
          have e4 : r'.b = k := h4.2.1
          have ha : r'.a = r.a ∧ r'.b = r.b ∧ r'.x < r.x := by omega
          have hia : i = a := by omega
          have hkb : k = b := by omega
          subst hia; subst hkb
          rcases t4 r' hk with h' | ⟨_, h' | h'⟩
          · omega
          · rw [h'] at ha; omega
          · omega

/-- Lines. -/
def placeP (all n k : Int) : Int := if 2 * (k * all % n) ≤ n then k * all / n else k * all / n + 1
def wrongP (all n k : Int) : Int := placeP all n k * n - k * all
def absI (n : Int) : Int := max n (-n)
theorem place_spec {all n k : Int} (hn : 0 < n) : (placeP all n k = k * all / n ∧ wrongP all n k = -(k * all % n) ∧ 2 * (k * all % n) ≤ n) ∨ (placeP all n k = k * all / n + 1 ∧ wrongP all n k = n - k * all % n ∧ n < 2 * (k * all % n)) := by
  have h1 := Int.mul_ediv_add_emod (k * all) n
  unfold wrongP placeP
  generalize k * all / n = q at *
  generalize k * all % n = r at *
  generalize k * all = a at *
  split
  · left; refine ⟨rfl, ?_, by omega⟩
    rw [Int.mul_comm q n]; omega
  · right; refine ⟨rfl, ?_, by omega⟩
    rw [Int.add_mul, Int.mul_comm q n]; omega
theorem wrong_bound {all n k : Int} (hn : 0 < n) : -n ≤ wrongP all n k ∧ wrongP all n k ≤ n := by
  have h1 := Int.emod_nonneg (k * all) (show n ≠ 0 by omega)
  have h2 := Int.emod_lt_of_pos (k * all) hn
  rcases place_spec (all := all) (k := k) hn with ⟨_, h, _⟩ | ⟨_, h, _⟩ <;> rw [h] <;> omega
theorem line_place {all n k : Int} (hn : 0 < n) (h0 : 0 ≤ k * all) : (2 * k * all - n + 2 * n - 1).tdiv (2 * n) = placeP all n k := by
  have h1 := Int.mul_ediv_add_emod (k * all) n
  have h2 := Int.emod_nonneg (k * all) (show n ≠ 0 by omega)
  have h3 := Int.emod_lt_of_pos (k * all) hn
  rw [Int.mul_assoc 2 k all, Int.tdiv_eq_ediv_of_nonneg (by omega)]
  unfold placeP
  generalize k * all / n = q at *
  generalize k * all % n = r at *
  generalize k * all = a at *
  subst h1
  split
  · have e : 2 * (n * q + r) - n + 2 * n - 1 = (2 * r + n - 1) + q * (2 * n) := by
      rw [Int.mul_comm q (2 * n), Int.mul_assoc]; omega
    rw [e, Int.add_mul_ediv_right _ _ (by omega), Int.ediv_eq_zero_of_lt (by omega) (by omega)]; omega
  · have e : 2 * (n * q + r) - n + 2 * n - 1 = (2 * r - n - 1) + (q + 1) * (2 * n) := by
      rw [Int.add_mul, Int.mul_comm q (2 * n), Int.mul_assoc]; omega
    rw [e, Int.add_mul_ediv_right _ _ (by omega), Int.ediv_eq_zero_of_lt (by omega) (by omega)]; omega
def faultTo (all n : Int) (m : Nat) : Int := (List.range m).foldl (fun (a : Int) (k : Nat) => max a (absI (wrongP all n k))) 0
def faultP (all n : Int) : Int := faultTo all n n.toNat
theorem faultTo_succ (all n : Int) (m : Nat) : faultTo all n (m + 1) = max (faultTo all n m) (absI (wrongP all n m)) := by
  unfold faultTo; rw [List.range_succ, List.foldl_append]; rfl
theorem faultTo_bound {all n : Int} (hn : 0 < n) : ∀ m : Nat, 0 ≤ faultTo all n m ∧ faultTo all n m ≤ n
  | 0 => by simp [faultTo]; omega
  | m + 1 => by
    have h1 := faultTo_bound (all := all) hn m
    have h2 := wrong_bound (all := all) (k := m) hn
    rw [faultTo_succ]; unfold absI; omega
theorem faultTo_le {all n : Int} : ∀ {m k : Nat}, k < m → absI (wrongP all n k) ≤ faultTo all n m
  | m + 1, k, h => by
    rw [faultTo_succ]
    by_cases hk : k = m
    · subst hk; omega
    · have := faultTo_le (all := all) (n := n) (show k < m by omega); omega
theorem faultTo_is {all n : Int} : ∀ {m : Nat}, 0 < m → ∃ k : Nat, k < m ∧ faultTo all n m = absI (wrongP all n k)
  | 1, _ => ⟨0, by omega, by rw [faultTo_succ]; simp only [faultTo, List.range_zero, List.foldl_nil]; unfold absI; omega⟩
  | m + 2, _ => by
    obtain ⟨k, h1, h2⟩ := faultTo_is (all := all) (n := n) (show 0 < m + 1 by omega)
    rw [faultTo_succ]
    by_cases h : faultTo all n (m + 1) ≤ absI (wrongP all n ((m + 1 : Nat) : Int))
    · exact ⟨m + 1, by omega, by omega⟩
    · exact ⟨k, by omega, by omega⟩
/-- How many lines are cut before their place, and behind it. -/
def offTo (all n : Int) (m : Nat) : Int × Int := (List.range m).foldl (fun (a : Int × Int) (k : Nat) => if wrongP all n k < 0 then (a.1 + 1, a.2) else if wrongP all n k > 0 then (a.1, a.2 + 1) else a) (0, 0)
theorem offTo_succ (all n : Int) (m : Nat) : offTo all n (m + 1) = if wrongP all n m < 0 then ((offTo all n m).1 + 1, (offTo all n m).2) else if wrongP all n m > 0 then ((offTo all n m).1, (offTo all n m).2 + 1) else offTo all n m := by
  unfold offTo; rw [List.range_succ, List.foldl_append]; rfl
theorem offTo_spec (all n : Int) : ∀ m : Nat, 0 ≤ (offTo all n m).1 ∧ 0 ≤ (offTo all n m).2 ∧ (offTo all n m).1 + (offTo all n m).2 ≤ m ∧ ((offTo all n m).1 = 0 ∧ (offTo all n m).2 = 0 → faultTo all n m = 0)
  | 0 => by simp [offTo, faultTo]
  | m + 1 => by
    obtain ⟨h1, h2, h3, h4⟩ := offTo_spec all n m
    rw [offTo_succ, faultTo_succ]
    split
    · simp only; refine ⟨by omega, by omega, by omega, by omega⟩
    · split
      · simp only; refine ⟨by omega, by omega, by omega, by omega⟩
      · refine ⟨h1, h2, by omega, fun h => ?_⟩
        rw [h4 h]; unfold absI; omega
/-- What is engraved. -/
def engrP (fault all : Int) : Int := (fault * 129600000 + all - 1) / all
theorem engr_up {f all : Int} (ha : 0 < all) : -((-(f * 129600000)) / all) = engrP f all := by
  unfold engrP
  generalize f * 129600000 = a
  have h1 := Int.mul_ediv_add_emod (-a) all
  have h2 := Int.emod_nonneg (-a) (show all ≠ 0 by omega)
  have h3 := Int.emod_lt_of_pos (-a) ha
  have e : a + all - 1 = (all - 1 - (-a) % all) + (-((-a) / all)) * all := by
    rw [Int.neg_mul, Int.mul_comm ((-a) / all) all]; omega
  have e2 : (all - 1 - (-a) % all) / all = 0 := Int.ediv_eq_zero_of_lt (by omega) (by omega)
  rw [e, Int.add_mul_ediv_right _ _ (by omega), e2]; omega
def cutE (t : Int) (l : List Int) (c n : Int) : List Int × Int × Int :=
  if headOk t l = false then ([], 0, 10) else if inB n 1 2000 = false then ([], 0, 11) else if inB c 0 ((l.length : Int) - 1) = false then ([], 0, 12) else
    ((List.range n.toNat).map (fun k : Nat => placeP (t * nthI l c) n k), engrP (faultP (t * nthI l c) n) (n * (t * nthI l c)), 0)
/-- The best circle of the first ones (one more than k), and its fault. -/
def bestK (t : Int) (l : List Int) (n : Int) : Nat → Int × Int
  | 0 => (0, faultP (t * nthI l 0) n)
  | k + 1 => if faultP (t * nthI l ((k + 1 : Nat) : Int)) n * nthI l (bestK t l n k).1 < (bestK t l n k).2 * nthI l ((k + 1 : Nat) : Int) then (((k + 1 : Nat) : Int), faultP (t * nthI l ((k + 1 : Nat) : Int)) n) else bestK t l n k
def bestE (t : Int) (l : List Int) (n : Int) : Int × Int × Int :=
  if headOk t l = false then (0, 0, 10) else if inB n 1 2000 = false then (0, 0, 11) else
    ((bestK t l n (l.length - 1)).1, engrP (bestK t l n (l.length - 1)).2 (n * (t * nthI l (bestK t l n (l.length - 1)).1)), 0)
theorem bestK_spec (t : Int) (l : List Int) (n : Int) (k : Nat) : 0 ≤ (bestK t l n k).1 ∧ (bestK t l n k).1 ≤ k ∧ (bestK t l n k).2 = faultP (t * nthI l (bestK t l n k).1) n := by
  induction k with
  | zero => exact ⟨Int.le_refl _, Int.le_refl _, rfl⟩
  | succ k ih =>
    rw [bestK]
    split
    · exact ⟨by simp only; omega, by simp only; omega, rfl⟩
    · exact ⟨ih.1, by omega, ih.2.2⟩
/-- Trains. -/
structure Tn where
  a : Int
  b : Int
  c : Int
  d : Int
  deriving DecidableEq
def Tn.cs (p : Tn) : List TV := [.int .i64 p.a, .int .i64 p.b, .int .i64 p.c, .int .i64 p.d]
def Tn.tv (p : Tn) : TV := .agg p.cs
def stockOk1 (st : List Int) : Bool := inB st.length 2 10 && st.all fun n => inB n 10 200
/-- Do wheels give the ratio? (every second one is driven) -/
def drvL (st : List Int) : Bool → Int → Int → List Int → Int × Int
  | _, x, y, [] => (x, y)
  | true, x, y, w :: l => drvL st false (x * nthI st w) y l
  | false, x, y, w :: l => drvL st true x (y * nthI st w) l
def fitsL (st : List Int) (p q : Int) (l : List Int) : Bool := (drvL st true q p l).1 == (drvL st true q p l).2
def tnOf : List Int → Tn
  | [a, b] => ⟨a, b, -1, -1⟩
  | [a, b, c, d] => ⟨a, b, c, d⟩
  | _ => ⟨-1, -1, -1, -1⟩
/-- The first wheels that fit, d more behind l. -/
def srch (st : List Int) (p q : Int) : Nat → List Int → Option (List Int)
  | 0, l => if fitsL st p q l = true then some l else none
  | d + 1, l => (List.range st.length).findSome? fun i : Nat => if l.contains (i : Int) then none else srch st p q d (l ++ [(i : Int)])
def trainP (st : List Int) (p q : Int) : Option Tn := match srch st p q 2 [] with
  | some l => some (tnOf l)
  | none => (srch st p q 4 []).map tnOf
def trainE (st : List Int) (p q : Int) : Tn × Int :=
  if (stockOk1 st && inB p 1 100000 && inB q 1 100000) = false then (⟨0, 0, 0, 0⟩, 13) else match trainP st p q with
    | none => (⟨0, 0, 0, 0⟩, 4)
    | some t => (t, 0)
/-- Differentials. -/
structure Df where
  m : Int
  p : Pl
  t : Tn
  on : Bool
  deriving DecidableEq
def Df.cs (x : Df) : List TV := .int .i64 x.m :: (x.p.cs ++ (x.t.cs ++ [.bool x.on]))
def Df.tv (x : Df) : TV := .agg x.cs
def diff1 (t : Int) (l st : List Int) (n aside m : Int) : Option Df :=
  if inB m 1 20000 = false then none else match plansP t l m with
    | [] => none
    | p :: _ => match trainP st (t * aside) m with
      | none => none
      | some tr => some ⟨m, p, tr, decide (m > n)⟩
def diff2 (t : Int) (l st : List Int) (n aside : Int) : Option Df := match diff1 t l st n aside (n - aside) with
  | some x => some x
  | none => diff1 t l st n aside (n + aside)
def diffP (t : Int) (l st : List Int) (n : Int) : Option Df := (List.range 20).findSome? fun i : Nat => diff2 t l st n ((i : Int) + 1)
def diffE (t : Int) (l st : List Int) (n : Int) : Df × Int :=
  if headOk t l = false then (⟨0, ⟨0, 0, 0⟩, ⟨0, 0, 0, 0⟩, false⟩, 10) else if inB n 1 2000 = false then (⟨0, ⟨0, 0, 0⟩, ⟨0, 0, 0, 0⟩, false⟩, 11) else if stockOk1 st = false then (⟨0, ⟨0, 0, 0⟩, ⟨0, 0, 0, 0⟩, false⟩, 13) else
    match diffP t l st n with
    | none => (⟨0, ⟨0, 0, 0⟩, ⟨0, 0, 0, 0⟩, false⟩, 4)
    | some x => (x, 0)
/-- Prefixes of a search. -/
def fsTo {α : Type} (f : Nat → Option α) (k : Nat) : Option α := (List.range k).findSome? f
theorem fsTo_succ {α : Type} (f : Nat → Option α) (k : Nat) : fsTo f (k + 1) = match fsTo f k with
    | some x => some x
    | none => f k := by
  unfold fsTo
  rw [List.range_succ, List.findSome?_append]
  cases (List.range k).findSome? f with
  | some x => rfl
  | none => simp
theorem fsTo_hit {α : Type} {f : Nat → Option α} {n k : Nat} {x : α} (h0 : fsTo f k = none) (hk : k < n) (h1 : f k = some x) : fsTo f n = some x := by
  have h2 : fsTo f (k + 1) = some x := by rw [fsTo_succ, h0]; exact h1
  clear h0 h1
  induction n with
  | zero => omega
  | succ n ih =>
    by_cases hkn : k = n
    · subst hkn; exact h2
    · rw [fsTo_succ, ih (by omega)]
theorem fsTo_some {α : Type} {f : Nat → Option α} {n : Nat} {x : α} (h : fsTo f n = some x) : ∃ k, k < n ∧ fsTo f k = none ∧ f k = some x := by
  induction n with
  | zero => simp [fsTo] at h
  | succ n ih =>
    rw [fsTo_succ] at h
    cases h' : fsTo f n with
    | some y =>
      rw [h'] at h
      obtain ⟨k, h1, h2, h3⟩ := ih (by rw [h']; exact h)
      exact ⟨k, by omega, h2, h3⟩
    | none => rw [h'] at h; exact ⟨n, by omega, h', h⟩
theorem fsTo_none {α : Type} {f : Nat → Option α} {n : Nat} : fsTo f n = none ↔ ∀ k, k < n → f k = none := by
  unfold fsTo
  rw [List.findSome?_eq_none_iff]
  simp
/-- The specification's search. -/
def r2 (st : List Int) (p q : Int) (a b : Nat) : Option Tn := if a ≠ b ∧ nthI st a * q = nthI st b * p then some ⟨a, b, -1, -1⟩ else none
def r4 (st : List Int) (p q : Int) (a b c d : Nat) : Option Tn :=
  if (a ≠ b ∧ a ≠ c ∧ a ≠ d ∧ b ≠ c ∧ b ≠ d ∧ c ≠ d) ∧ nthI st a * nthI st c * q = nthI st b * nthI st d * p then some ⟨a, b, c, d⟩ else none
def trainR (st : List Int) (p q : Int) : Option Tn := match fsTo (fun a => fsTo (r2 st p q a) st.length) st.length with
  | some t => some t
  | none => fsTo (fun a => fsTo (fun b => fsTo (fun c => fsTo (r4 st p q a b c) st.length) st.length) st.length) st.length
theorem srch_map (st : List Int) (p q : Int) (d : Nat) (l : List Int) : (srch st p q (d + 1) l).map tnOf = fsTo (fun i => if l.contains (i : Int) then none else (srch st p q d (l ++ [(i : Int)])).map tnOf) st.length := by
  unfold fsTo
  rw [srch, List.map_findSome?]
  congr 1
  funext i
  simp only [Function.comp]
  split <;> rfl
theorem fsTo_congr {α : Type} {f g : Nat → Option α} {n : Nat} (h : ∀ k, k < n → f k = g k) : fsTo f n = fsTo g n := by
  induction n with
  | zero => rfl
  | succ n ih => rw [fsTo_succ, fsTo_succ, ih fun k hk => h k (by omega), h n (by omega)]
theorem srch0 (st : List Int) (p q : Int) (l : List Int) : (srch st p q 0 l).map tnOf = if fitsL st p q l = true then some (tnOf l) else none := by
  unfold srch; split <;> rfl
theorem train_ref (st : List Int) (p q : Int) : trainR st p q = trainP st p q := by
  have h2 : (srch st p q 2 []).map tnOf = fsTo (fun a => fsTo (r2 st p q a) st.length) st.length := by
    rw [srch_map]
    refine fsTo_congr fun a _ => ?_
    rw [if_neg (by simp), srch_map]
    refine fsTo_congr fun b _ => ?_
    rw [srch0]
    simp only [List.nil_append, List.cons_append, List.contains_cons, List.contains_nil, Bool.or_false, fitsL, drvL, tnOf, r2, beq_iff_eq]
    rw [Int.mul_comm q, Int.mul_comm p]
    by_cases hab : a = b
    · subst hab; simp
    · have hab' : ¬ (b : Int) = a := by omega
      simp [hab, hab']
  have h4 : (srch st p q 4 []).map tnOf = fsTo (fun a => fsTo (fun b => fsTo (fun c => fsTo (r4 st p q a b c) st.length) st.length) st.length) st.length := by
    rw [srch_map]
    refine fsTo_congr fun a _ => ?_
    rw [if_neg (by simp), srch_map]
    refine fsTo_congr fun b _ => ?_
    by_cases hab : a = b
    · subst hab
      simp only [List.nil_append, List.contains_cons, List.contains_nil, Bool.or_false, beq_self_eq_true, if_true]
      symm
      rw [fsTo_none]; intro c _
      rw [fsTo_none]; intro d _
      simp [r4]
    · have hab' : ¬ (b : Int) = a := by omega
      rw [if_neg (by simpa using hab'), srch_map]
      refine fsTo_congr fun c _ => ?_
      by_cases hc : c = a ∨ c = b
      · rw [if_pos (by rcases hc with rfl | rfl <;> simp)]
        symm
        rw [fsTo_none]; intro d _
        unfold r4; rw [if_neg]; rintro ⟨h, _⟩; omega
      · rw [if_neg (by simp; omega), srch_map]
        refine fsTo_congr fun d _ => ?_
        by_cases hd : d = a ∨ d = b ∨ d = c
        · rw [if_pos (by rcases hd with rfl | rfl | rfl <;> simp)]
          symm
          unfold r4; rw [if_neg]; rintro ⟨h, _⟩; omega
        · rw [if_neg (by simp; omega), srch0]
          simp only [List.nil_append, List.cons_append, fitsL, drvL, tnOf, r4, beq_iff_eq]
          have e : (nthI st a * nthI st c * q = nthI st b * nthI st d * p) ↔ (q * nthI st a * nthI st c = p * nthI st b * nthI st d) := by
            rw [Int.mul_comm _ q, Int.mul_comm _ p, Int.mul_assoc, Int.mul_assoc]
          have hx : (a ≠ b ∧ a ≠ c ∧ a ≠ d ∧ b ≠ c ∧ b ≠ d ∧ c ≠ d) := by omega
          by_cases hp : q * nthI st a * nthI st c = p * nthI st b * nthI st d
          · rw [if_pos hp, if_pos ⟨hx, e.2 hp⟩]
          · rw [if_neg hp, if_neg fun h => hp (e.1 h.2)]
  unfold trainR trainP
  rw [← h2, ← h4]
  cases srch st p q 2 [] <;> rfl
end Go.Oc.Ix

/- Part Iu0. -/
namespace Go.Oc.Ix
end Go.Oc.Ix
namespace Go.Proofs.YtlonlnfenbadbaaDoor.Ix
end Go.Proofs.YtlonlnfenbadbaaDoor.Ix
namespace Go.Oc.Ix
open Go Go.Pm
/-- So far all is well, and the last circle. -/
def chkTo (t : Int) (l : List Int) (k : Nat) : Bool := circTo (inB t 1 400 && inB l.length 1 12) 1 (l.take k)
def lastTo (l : List Int) : Nat → Int
  | 0 => 1
  | k + 1 => nthI l k
theorem circTo_snoc : ∀ (ok : Bool) (a : Int) (l : List Int) (x : Int), circTo ok a (l ++ [x]) = (circTo ok a l && inB x (IntKind.i64.wrap ((l.getLast?.getD a) + 1)) 200)
  | ok, a, [], x => rfl
  | ok, a, [y], x => rfl
  | ok, a, y :: z :: l, x => by
    rw [List.cons_append, circTo, circTo_snoc _ y (z :: l) x, circTo, List.getLast?_cons_cons]
    rfl
theorem chkTo_succ {t : Int} {l : List Int} {k : Nat} {x : Int} (h : l[k]? = some x) : chkTo t l (k + 1) = (chkTo t l k && inB x (IntKind.i64.wrap (lastTo l k + 1)) 200) := by
  unfold chkTo
  rw [take_snoc h, circTo_snoc]
  congr 4
  cases k with
  | zero => rfl
  | succ k =>
    have hk := (List.getElem?_eq_some_iff.1 h).1
    have hx : l[k]? = some l[k] := List.getElem?_eq_getElem (by omega)
    rw [take_snoc hx, List.getLast?_concat]
    show l[k] = nthI l k
    rw [nthI_at hx]
theorem chkTo_all (t : Int) (l : List Int) : chkTo t l l.length = headOk t l := by
  unfold chkTo headOk
  rw [List.take_length, circTo_eq _ (by omega), Bool.and_assoc]
end Go.Oc.Ix
namespace Go.Proofs.YtlonlnfenbadbaaDoor.Ix
open Go.RowKit Go.Pm Go.Oc Go.Oc.Ix
set_option maxRecDepth 100000
set_option linter.unusedVariables false
set_option maxHeartbeats 4000000

@[go_sem] theorem glob_noTrain : globP 0 = .t (.cptr [.int .i64 (-1), .int .i64 (-1), .int .i64 (-1), .int .i64 (-1)]) := rfl
theorem iWithin_c (n lo hi : Int) : PCalls Tryd.prog 61 [.int .i64 n, .int .i64 lo, .int .i64 hi] (.bool (inB n lo hi)) := by
  refine pcalls_by Tryd.mixes noSpec_ok (fn := Tryd.f61) Tryd.func61 rfl (by kernel_rfl) (by show 3 ≤ _; decide) ?_
  simp (decide := true) (maxSteps := 4000000) only [go_sem, Nat.reduceAdd, Nat.reduceSub, Nat.reduceMul, Nat.reduceDiv, Nat.reduceMod, Nat.reduceLT, Nat.reduceLeDiff, Nat.reduceEqDiff, Nat.reduceBEq, Nat.reduceBNe, Nat.reduceGT, Int.reduceAdd, Int.reduceSub, Int.reduceMul, Int.reduceNeg, Int.reduceLT, Int.reduceLE, Int.reduceEq, Int.reduceNe, Int.reduceBEq, Int.reduceBNe, Int.reduceToNat, Int.reduceGT, Int.reduceGE, ↓reduceIte, decide_true, decide_false, eq_self, Nat.mul_one, Nat.zero_mul, Nat.one_mul, Int.le_refl, Nat.le_refl, Int.cast_ofNat_Int, Tryd.f61, inB]
noncomputable def ixWithin : List TV → Option TV
  | [.int .i64 n, .int .i64 a, .int .i64 b] => some (.bool (inB n a b))
  | _ => none
theorem ixWithin_ok : ∀ xs r, ixWithin xs = some r → PCalls Tryd.prog 61 xs r := by
  intro xs r h
  unfold ixWithin at h
  split at h
  · cases h; exact iWithin_c _ _ _
  · cases h
attribute [go_sem] ixWithin
noncomputable def spU1 : Pm.Spec := noSpec.one 61 ixWithin
@[go_sem] theorem spU1_p (f : FuncId) (xs : List TV) : spU1.p f xs = Pm.Spec.p (noSpec.one 61 ixWithin) f xs := rfl
@[go_sem] theorem spU1_h (f : FuncId) (ps : List PV) (hl : List PO) : spU1.h f ps hl = Pm.Spec.h (noSpec.one 61 ixWithin) f ps hl := rfl
@[go_sem] theorem spU1_y (Y : Pm.YS) (f : FuncId) (ps : List PV) (hl : List PO) : spU1.y Y f ps hl = Pm.Spec.y (noSpec.one 61 ixWithin) Y f ps hl := rfl
@[go_sem] theorem spU1_fz (f : FuncId) : spU1.fz f = Pm.Spec.fz (noSpec.one 61 ixWithin) f := rfl
@[go_sem] theorem spU1_fr (f : FuncId) : spU1.fr f = Pm.Spec.fr (noSpec.one 61 ixWithin) f := rfl
@[go_sem] theorem spU1_yf (f : FuncId) : spU1.yf f = Pm.Spec.yf (noSpec.one 61 ixWithin) f := rfl
@[go_sem] theorem spU1_gd : spU1.gd = Pm.Spec.gd (noSpec.one 61 ixWithin) := rfl
@[go_sem] theorem spU1_mu (t : TypeId) : spU1.mu t = Pm.Spec.mu (noSpec.one 61 ixWithin) t := rfl
@[go_sem] theorem spU1_nf (t : TypeId) : spU1.nf t = Pm.Spec.nf (noSpec.one 61 ixWithin) t := rfl
theorem spU1_ok : SpecOk Tryd.prog spU1 := Spec.one_ok ixWithin_ok noSpec_ok
/-- A head that is opened: the head, the error. -/
def openE (t : Int) (l : List Int) (n most : Int) : Int := if headOk t l = false then 10 else if inB n 1 most = false then 11 else 0
noncomputable def ixOpened : List TV → Option TV
  | [.agg [.int .i64 t, s], .int .i64 n, .int .i64 most] => match rowL unI s with
    | some l => if l.length ≤ 17592186044415 then some (.tup [if openE t l n most = 0 then .agg [.int .i64 t, s] else .agg [.int .i64 0, .nilSl], .int .i64 (openE t l n most)]) else none
    | none => none
  | _ => none
attribute [go_sem] ixOpened
end Go.Proofs.YtlonlnfenbadbaaDoor.Ix

/- Part Iz. -/
namespace Go.Oc.Ix
end Go.Oc.Ix
namespace Go.Proofs.YtlonlnfenbadbaaDoor.Ix
end Go.Proofs.YtlonlnfenbadbaaDoor.Ix
namespace Go.Oc.Ix
open Go Go.Pm
set_option maxRecDepth 100000
def placesTo (all n : Int) (m : Nat) : List Int := (List.range m).map fun k : Nat => placeP all n k
theorem placesTo_succ (all n : Int) (m : Nat) : placesTo all n (m + 1) = placesTo all n m ++ [placeP all n m] := by
  unfold placesTo; rw [List.range_succ, List.map_append]; rfl
theorem placesTo_len (all n : Int) (m : Nat) : (placesTo all n m).length = m := by simp [placesTo]
theorem ints_snoc (l : List Int) (x : Int) : ints (l ++ [x]) = ints l ++ [.int .i64 x] := by simp [ints]
theorem allB0 {t : Int} {l : List Int} (hh : headOk t l = true) {c : Nat} {h : Int} (hx : l[c]? = some h) : 1 ≤ t * h ∧ t * h ≤ 80000 := by
  have hh' := headOk_iff.1 hh
  have hb := head_at hh hx
  have m1 := mulB (a := t) (b := h) (A := 400) (B := 200) (by omega) (by omega) (by omega) (by omega)
  have := Int.mul_pos (show 0 < t by omega) (show 0 < h by omega)
  omega
end Go.Oc.Ix
namespace Go.Proofs.YtlonlnfenbadbaaDoor.Ix
open Go.RowKit Go.Pm Go.Oc Go.Oc.Ix
set_option maxRecDepth 100000
set_option linter.unusedVariables false
set_option maxHeartbeats 4000000

noncomputable def ixCutH : List TV → Option TV
  | [.agg [.int .i64 t, .sl cs m f], .int .i64 c, .int .i64 n] => match unI cs with
    | some l => if m = l.length ∧ headOk t l = true ∧ (1 ≤ n ∧ n ≤ 2000) ∧ 0 ≤ c ∧ c < l.length then some (.tup [.sl (ints (placesTo (t * nthI l c) n n.toNat)) n.toNat false, .int .i64 (faultP (t * nthI l c) n)]) else none
    | none => none
  | _ => none
attribute [go_sem] ixCutH
noncomputable def ixEngr : List TV → Option TV
  | [.agg [.int .i64 t, .sl cs m f], .int .i64 c, .int .i64 n, .int .i64 F] => match unI cs with
    | some l => if m = l.length ∧ headOk t l = true ∧ (1 ≤ n ∧ n ≤ 2000) ∧ (0 ≤ c ∧ c < l.length) ∧ 0 ≤ F ∧ F ≤ 2000 then some (.int .i64 (engrP F (n * (t * nthI l c)))) else none
    | none => none
  | _ => none
attribute [go_sem] ixEngr
end Go.Proofs.YtlonlnfenbadbaaDoor.Ix

/- Part Ic. -/
namespace Go.Oc.Ix
end Go.Oc.Ix
namespace Go.Proofs.YtlonlnfenbadbaaDoor.Ix
end Go.Proofs.YtlonlnfenbadbaaDoor.Ix
namespace Go.Oc.Ix
open Go Go.Pm
set_option maxRecDepth 100000
def badW (x : Int) : Bool := !inB x 10 200
def idxBad (l : List Int) : Int := (fsTo (fun i => if badW (nthI l i) then some (i : Int) else none) l.length).getD (-1)
theorem stockOk1_iff {st : List Int} : stockOk1 st = true ↔ (2 ≤ st.length ∧ st.length ≤ 10) ∧ ∀ x ∈ st, 10 ≤ x ∧ x ≤ 200 := by
  simp only [stockOk1, Bool.and_eq_true, inB_iff, List.all_eq_true]
  constructor
  · rintro ⟨h, h2⟩; exact ⟨by omega, h2⟩
  · rintro ⟨h, h2⟩; exact ⟨by omega, h2⟩
/-- The best circle before the k-th one, its fault and its holes, as the program has them. -/
def bS (t : Int) (l : List Int) (n : Int) : Nat → Int × Int × Int
  | 0 => (0, 0, 0)
  | k + 1 => ((bestK t l n k).1, (bestK t l n k).2, nthI l (bestK t l n k).1)
theorem bS_first (t : Int) (l : List Int) (n : Int) {k : Nat} (h : k = 0) {x : Int} (hx : nthI l k = x) : bS t l n (k + 1) = ((k : Int), faultP (t * x) n, x) := by
  subst h
  have e : nthI l 0 = x := hx
  show ((0 : Int), faultP (t * nthI l 0) n, nthI l 0) = _
  rw [e]; rfl
theorem bS_next (t : Int) (l : List Int) (n : Int) {k : Nat} (h : ¬ k = 0) {x : Int} (hx : nthI l k = x) : bS t l n (k + 1) = if faultP (t * x) n * (bS t l n k).2.2 < (bS t l n k).2.1 * x then ((k : Int), faultP (t * x) n, x) else bS t l n k := by
  cases k with
  | zero => exact absurd rfl h
  | succ k =>
    have e : bestK t l n (k + 1) = if faultP (t * x) n * nthI l (bestK t l n k).1 < (bestK t l n k).2 * x then (((k + 1 : Nat) : Int), faultP (t * x) n) else bestK t l n k := by rw [bestK, hx]
    show ((bestK t l n (k + 1)).1, (bestK t l n (k + 1)).2, nthI l (bestK t l n (k + 1)).1) = if faultP (t * x) n * nthI l (bestK t l n k).1 < (bestK t l n k).2 * x then (((k + 1 : Nat) : Int), faultP (t * x) n, x) else ((bestK t l n k).1, (bestK t l n k).2, nthI l (bestK t l n k).1)
    rw [e]
    by_cases hc : faultP (t * x) n * nthI l (bestK t l n k).1 < (bestK t l n k).2 * x
    · rw [if_pos hc, if_pos hc]; simp only [hx]
    · rw [if_neg hc, if_neg hc]
theorem bS_bound (t : Int) {l : List Int} {n : Int} (hn : 1 ≤ n) (hn2 : n ≤ 2000) (hl : ∀ k : Nat, k < l.length → 0 ≤ nthI l k ∧ nthI l k ≤ 200) (k : Nat) (hk : k ≤ l.length) : (0 ≤ (bS t l n k).2.1 ∧ (bS t l n k).2.1 ≤ 2000) ∧ 0 ≤ (bS t l n k).2.2 ∧ (bS t l n k).2.2 ≤ 200 := by
  cases k with
  | zero => simp [bS]
  | succ k =>
    obtain ⟨b1, b2, b3⟩ := bestK_spec t l n k
    simp only [bS]
    obtain ⟨j, hj⟩ := Int.eq_ofNat_of_zero_le b1
    have h1 := hl j (by omega)
    rw [← hj] at h1
    have hf := faultTo_bound (all := t * nthI l (bestK t l n k).1) (n := n) (by omega) n.toNat
    rw [b3]
    unfold faultP
    omega
theorem idxBad_iff (l : List Int) : decide (idxBad l ≥ 0) = !(l.all fun n => inB n 10 200) := by
  unfold idxBad
  cases h : fsTo (fun i => if badW (nthI l i) then some (i : Int) else none) l.length with
  | some k =>
    obtain ⟨i, hi, _, hk⟩ := fsTo_some h
    split at hk
    · rename_i hb
      cases hk
      have e : (l.all fun n => inB n 10 200) = false := by
        rw [List.all_eq_false]
        have hx : l[i]? = some l[i] := List.getElem?_eq_getElem hi
        refine ⟨l[i], List.getElem_mem _, ?_⟩
        rw [nthI_at hx] at hb
        simpa [badW] using hb
      rw [e]; simp
    · cases hk
  | none =>
    have e : (l.all fun n => inB n 10 200) = true := by
      rw [List.all_eq_true]
      intro x hx
      obtain ⟨i, hi⟩ := List.mem_iff_getElem?.1 hx
      have := fsTo_none.1 h i (List.getElem?_eq_some_iff.1 hi).1
      rw [nthI_at hi] at this
      split at this
      · cases this
      · rename_i hb; simpa [badW] using hb
    rw [e]; rfl
end Go.Oc.Ix
namespace Go.Proofs.YtlonlnfenbadbaaDoor.Ix
open Go.RowKit Go.Pm Go.Oc Go.Oc.Ix
set_option maxRecDepth 100000
set_option linter.unusedVariables false
set_option maxHeartbeats 4000000

end Go.Proofs.YtlonlnfenbadbaaDoor.Ix

/- Part Id. -/
namespace Go.Oc.Ix
end Go.Oc.Ix
namespace Go.Proofs.YtlonlnfenbadbaaDoor.Ix
end Go.Proofs.YtlonlnfenbadbaaDoor.Ix
namespace Go.Oc.Ix
open Go Go.Pm
set_option maxRecDepth 100000
/-- What drives and what is driven, by the first wheels. -/
def drvTo (st : List Int) (p q : Int) (l : List Int) : Nat → Int × Int
  | 0 => (q, p)
  | k + 1 => if k % 2 = 0 then ((drvTo st p q l k).1 * nthI st (nthI l k), (drvTo st p q l k).2) else ((drvTo st p q l k).1, (drvTo st p q l k).2 * nthI st (nthI l k))
theorem drv_all (st : List Int) (p q : Int) {l : List Int} (h : l.length = 2 ∨ l.length = 4) : fitsL st p q l = ((drvTo st p q l l.length).1 == (drvTo st p q l l.length).2) := by
  match l, h with
  | [a, b], _ => rfl
  | [a, b, c, d], _ => simp [fitsL, drvL, drvTo, nthI]
theorem drv_bound {st : List Int} {p q : Int} {l : List Int} (hst : ∀ i : Int, 0 ≤ i → i < st.length → 0 ≤ nthI st i ∧ nthI st i ≤ 200) (hl : ∀ k : Nat, k < l.length → 0 ≤ nthI l k ∧ nthI l k < st.length) (hp : 0 ≤ p ∧ p ≤ 100000) (hq : 0 ≤ q ∧ q ≤ 100000) (k : Nat) (hk : k ≤ l.length) :
    (0 ≤ (drvTo st p q l k).1 ∧ (drvTo st p q l k).1 ≤ 100000 * 200 ^ k) ∧ 0 ≤ (drvTo st p q l k).2 ∧ (drvTo st p q l k).2 ≤ 100000 * 200 ^ k := by
  induction k with
  | zero => simp [drvTo]; omega
  | succ k ih =>
    have ih := ih (by omega)
    have h1 := hl k (by omega)
    have h2 := hst _ h1.1 h1.2
    have e : (100000 : Int) * 200 ^ (k + 1) = (100000 * 200 ^ k) * 200 := by rw [Int.pow_succ, Int.mul_assoc]
    have h0 : (0 : Int) ≤ 100000 * 200 ^ k := Int.mul_nonneg (by omega) (Int.pow_nonneg (by omega))
    rw [drvTo, e]
    generalize (100000 : Int) * 200 ^ k = X at *
    split
    · have := mulB ih.1.1 h2.1 ih.1.2 h2.2
      simp only; omega
    · have := mulB ih.2.1 h2.1 ih.2.2 h2.2
      simp only; omega
theorem pow4 {k : Nat} (h : k ≤ 4) : (100000 : Int) * 200 ^ k ≤ 160000000000000 := by
  rcases (show k = 0 ∨ k = 1 ∨ k = 2 ∨ k = 3 ∨ k = 4 by omega) with rfl | rfl | rfl | rfl | rfl <;> decide
end Go.Oc.Ix
namespace Go.Proofs.YtlonlnfenbadbaaDoor.Ix
open Go.RowKit Go.Pm Go.Oc Go.Oc.Ix
set_option maxRecDepth 100000
set_option linter.unusedVariables false
set_option maxHeartbeats 4000000

theorem iBad_c (n : Int) : PCalls Tryd.prog 109 [.int .i64 n] (.bool (badW n)) := by
  refine pcalls_by Tryd.mixes spU1_ok (fn := Tryd.f109) Tryd.func109 rfl (by kernel_rfl) (by show 1 ≤ _; decide) ?_
  simp (decide := true) (maxSteps := 4000000) only [go_sem, Nat.reduceAdd, Nat.reduceSub, Nat.reduceMul, Nat.reduceDiv, Nat.reduceMod, Nat.reduceLT, Nat.reduceLeDiff, Nat.reduceEqDiff, Nat.reduceBEq, Nat.reduceBNe, Nat.reduceGT, Int.reduceAdd, Int.reduceSub, Int.reduceMul, Int.reduceNeg, Int.reduceLT, Int.reduceLE, Int.reduceEq, Int.reduceNe, Int.reduceBEq, Int.reduceBNe, Int.reduceToNat, Int.reduceGT, Int.reduceGE, ↓reduceIte, decide_true, decide_false, eq_self, Nat.mul_one, Nat.zero_mul, Nat.one_mul, Int.le_refl, Nat.le_refl, Int.cast_ofNat_Int, Tryd.f109, badW]
noncomputable def ixBad : List TV → Option TV
  | [.int .i64 n] => some (.bool (badW n))
  | _ => none
theorem ixBad_ok : ∀ xs r, ixBad xs = some r → PCalls Tryd.prog 109 xs r := by
  intro xs r h
  unfold ixBad at h
  split at h
  · cases h; exact iBad_c _
  · cases h
attribute [go_sem] ixBad
noncomputable def spD1 : Pm.Spec := spU1.one 109 ixBad
@[go_sem] theorem spD1_p (f : FuncId) (xs : List TV) : spD1.p f xs = Pm.Spec.p (spU1.one 109 ixBad) f xs := rfl
@[go_sem] theorem spD1_h (f : FuncId) (ps : List PV) (hl : List PO) : spD1.h f ps hl = Pm.Spec.h (spU1.one 109 ixBad) f ps hl := rfl
@[go_sem] theorem spD1_y (Y : Pm.YS) (f : FuncId) (ps : List PV) (hl : List PO) : spD1.y Y f ps hl = Pm.Spec.y (spU1.one 109 ixBad) Y f ps hl := rfl
@[go_sem] theorem spD1_fz (f : FuncId) : spD1.fz f = Pm.Spec.fz (spU1.one 109 ixBad) f := rfl
@[go_sem] theorem spD1_fr (f : FuncId) : spD1.fr f = Pm.Spec.fr (spU1.one 109 ixBad) f := rfl
@[go_sem] theorem spD1_yf (f : FuncId) : spD1.yf f = Pm.Spec.yf (spU1.one 109 ixBad) f := rfl
@[go_sem] theorem spD1_gd : spD1.gd = Pm.Spec.gd (spU1.one 109 ixBad) := rfl
@[go_sem] theorem spD1_mu (t : TypeId) : spD1.mu t = Pm.Spec.mu (spU1.one 109 ixBad) t := rfl
@[go_sem] theorem spD1_nf (t : TypeId) : spD1.nf t = Pm.Spec.nf (spU1.one 109 ixBad) t := rfl
theorem spD1_ok : SpecOk Tryd.prog spD1 := Spec.one_ok ixBad_ok spU1_ok
theorem iIndexFunc_c {l : List Int} {s : TV} (hl : IsRow ic s l) (hll : l.length ≤ 17592186044415) : PCalls Tryd.prog 148 [s, .fn 109 [] []] (.int .i64 (idxBad l)) := by
  have hz : idxBad l = (fsTo (fun i => if badW (nthI l i) then some (i : Int) else none) l.length).getD (-1) := rfl
  refine pcalls_by Tryd.mixes spD1_ok (fn := Tryd.f148) Tryd.func148 rfl (by kernel_rfl) (by show 2 ≤ _; decide) ?_
  rcases hl with ⟨rfl, rfl⟩ | ⟨f, rfl⟩
  · simp (decide := true) (maxSteps := 4000000) only [go_sem, Nat.reduceAdd, Nat.reduceSub, Nat.reduceMul, Nat.reduceDiv, Nat.reduceMod, Nat.reduceLT, Nat.reduceLeDiff, Nat.reduceEqDiff, Nat.reduceBEq, Nat.reduceBNe, Nat.reduceGT, Int.reduceAdd, Int.reduceSub, Int.reduceMul, Int.reduceNeg, Int.reduceLT, Int.reduceLE, Int.reduceEq, Int.reduceNe, Int.reduceBEq, Int.reduceBNe, Int.reduceToNat, Int.reduceGT, Int.reduceGE, ↓reduceIte, decide_true, decide_false, eq_self, Nat.mul_one, Nat.zero_mul, Nat.one_mul, Int.le_refl, Nat.le_refl, Int.cast_ofNat_Int, Tryd.f148]
    refine pwpC_loopU (A := Unit) [0, 1, 4, 7] (fun _ => [(8, .t (.int .i64 0))]) (fun _ => []) (fun _ => 0) () (by decide) (fun _ => by rfl) ?_ fun Q1 hQ1 _ I1 hI1 => ?_
    · simp (decide := true) (maxSteps := 4000000) only [go_sem, Nat.reduceAdd, Nat.reduceSub, Nat.reduceMul, Nat.reduceDiv, Nat.reduceMod, Nat.reduceLT, Nat.reduceLeDiff, Nat.reduceEqDiff, Nat.reduceBEq, Nat.reduceBNe, Nat.reduceGT, Int.reduceAdd, Int.reduceSub, Int.reduceMul, Int.reduceNeg, Int.reduceLT, Int.reduceLE, Int.reduceEq, Int.reduceNe, Int.reduceBEq, Int.reduceBNe, Int.reduceToNat, Int.reduceGT, Int.reduceGE, ↓reduceIte, decide_true, decide_false, eq_self, Nat.mul_one, Nat.zero_mul, Nat.one_mul, Int.le_refl, Nat.le_refl, Int.cast_ofNat_Int]
    · simp (decide := true) (maxSteps := 4000000) only [go_sem, Nat.reduceAdd, Nat.reduceSub, Nat.reduceMul, Nat.reduceDiv, Nat.reduceMod, Nat.reduceLT, Nat.reduceLeDiff, Nat.reduceEqDiff, Nat.reduceBEq, Nat.reduceBNe, Nat.reduceGT, Int.reduceAdd, Int.reduceSub, Int.reduceMul, Int.reduceNeg, Int.reduceLT, Int.reduceLE, Int.reduceEq, Int.reduceNe, Int.reduceBEq, Int.reduceBNe, Int.reduceToNat, Int.reduceGT, Int.reduceGE, ↓reduceIte, decide_true, decide_false, eq_self, Nat.mul_one, Nat.zero_mul, Nat.one_mul, Int.le_refl, Nat.le_refl, Int.cast_ofNat_Int]
      refine hQ1 _ _ ?_
      simp (decide := true) (maxSteps := 4000000) only [go_sem, Nat.reduceAdd, Nat.reduceSub, Nat.reduceMul, Nat.reduceDiv, Nat.reduceMod, Nat.reduceLT, Nat.reduceLeDiff, Nat.reduceEqDiff, Nat.reduceBEq, Nat.reduceBNe, Nat.reduceGT, Int.reduceAdd, Int.reduceSub, Int.reduceMul, Int.reduceNeg, Int.reduceLT, Int.reduceLE, Int.reduceEq, Int.reduceNe, Int.reduceBEq, Int.reduceBNe, Int.reduceToNat, Int.reduceGT, Int.reduceGE, ↓reduceIte, decide_true, decide_false, eq_self, Nat.mul_one, Nat.zero_mul, Nat.one_mul, Int.le_refl, Nat.le_refl, Int.cast_ofNat_Int]
      first | done | rfl
  · rw [ic_ints]
    simp (decide := true) (maxSteps := 4000000) only [go_sem, Nat.reduceAdd, Nat.reduceSub, Nat.reduceMul, Nat.reduceDiv, Nat.reduceMod, Nat.reduceLT, Nat.reduceLeDiff, Nat.reduceEqDiff, Nat.reduceBEq, Nat.reduceBNe, Nat.reduceGT, Int.reduceAdd, Int.reduceSub, Int.reduceMul, Int.reduceNeg, Int.reduceLT, Int.reduceLE, Int.reduceEq, Int.reduceNe, Int.reduceBEq, Int.reduceBNe, Int.reduceToNat, Int.reduceGT, Int.reduceGE, ↓reduceIte, decide_true, decide_false, eq_self, Nat.mul_one, Nat.zero_mul, Nat.one_mul, Int.le_refl, Nat.le_refl, Int.cast_ofNat_Int, Tryd.f148]
    refine pwpC_loopU (A := { k : Nat // k ≤ l.length ∧ fsTo (fun i => if badW (nthI l i) then some (i : Int) else none) k = none }) [0, 1, 4, 7] (fun k => [(8, .t (.int .i64 k.1))]) (fun _ => []) (fun k => l.length - k.1) ⟨0, by omega, rfl⟩ (by decide) (fun _ => by rfl) ?_ fun Q1 hQ1 ⟨k, hk, hno⟩ I1 hI1 => ?_
    · simp (decide := true) (maxSteps := 4000000) only [go_sem, Nat.reduceAdd, Nat.reduceSub, Nat.reduceMul, Nat.reduceDiv, Nat.reduceMod, Nat.reduceLT, Nat.reduceLeDiff, Nat.reduceEqDiff, Nat.reduceBEq, Nat.reduceBNe, Nat.reduceGT, Int.reduceAdd, Int.reduceSub, Int.reduceMul, Int.reduceNeg, Int.reduceLT, Int.reduceLE, Int.reduceEq, Int.reduceNe, Int.reduceBEq, Int.reduceBNe, Int.reduceToNat, Int.reduceGT, Int.reduceGE, ↓reduceIte, decide_true, decide_false, eq_self, Nat.mul_one, Nat.zero_mul, Nat.one_mul, Int.le_refl, Nat.le_refl, Int.cast_ofNat_Int]
    · by_cases hlt : (k : Int) < l.length
      · obtain ⟨x, hx⟩ := get_lt hlt
        have hd := ints_at hx
        rw [Nat.mul_one] at hd
        have hnx := nthI_at hx
        have hc1 : IntKind.i64.wrap (k + 1) = ((k + 1 : Nat) : Int) := by rw [wrap_in (by omega) (by omega)]; omega
        cases hb : badW x with
        | true =>
          have e : idxBad l = k := by
            rw [hz, fsTo_hit hno (show k < l.length by omega) (by rw [hnx, hb]; rfl)]; rfl
          simp (decide := true) (maxSteps := 4000000) only [go_sem, Nat.reduceAdd, Nat.reduceSub, Nat.reduceMul, Nat.reduceDiv, Nat.reduceMod, Nat.reduceLT, Nat.reduceLeDiff, Nat.reduceEqDiff, Nat.reduceBEq, Nat.reduceBNe, Nat.reduceGT, Int.reduceAdd, Int.reduceSub, Int.reduceMul, Int.reduceNeg, Int.reduceLT, Int.reduceLE, Int.reduceEq, Int.reduceNe, Int.reduceBEq, Int.reduceBNe, Int.reduceToNat, Int.reduceGT, Int.reduceGE, ↓reduceIte, decide_true, decide_false, eq_self, Nat.mul_one, Nat.zero_mul, Nat.one_mul, Int.le_refl, Nat.le_refl, Int.cast_ofNat_Int, hlt, hd, hb]
          try (refine hQ1 _ _ ?_)
          try simp (decide := true) (maxSteps := 4000000) only [go_sem, Nat.reduceAdd, Nat.reduceSub, Nat.reduceMul, Nat.reduceDiv, Nat.reduceMod, Nat.reduceLT, Nat.reduceLeDiff, Nat.reduceEqDiff, Nat.reduceBEq, Nat.reduceBNe, Nat.reduceGT, Int.reduceAdd, Int.reduceSub, Int.reduceMul, Int.reduceNeg, Int.reduceLT, Int.reduceLE, Int.reduceEq, Int.reduceNe, Int.reduceBEq, Int.reduceBNe, Int.reduceToNat, Int.reduceGT, Int.reduceGE, ↓reduceIte, decide_true, decide_false, eq_self, Nat.mul_one, Nat.zero_mul, Nat.one_mul, Int.le_refl, Nat.le_refl, Int.cast_ofNat_Int, e]
        | false =>
          simp (decide := true) (maxSteps := 4000000) only [go_sem, Nat.reduceAdd, Nat.reduceSub, Nat.reduceMul, Nat.reduceDiv, Nat.reduceMod, Nat.reduceLT, Nat.reduceLeDiff, Nat.reduceEqDiff, Nat.reduceBEq, Nat.reduceBNe, Nat.reduceGT, Int.reduceAdd, Int.reduceSub, Int.reduceMul, Int.reduceNeg, Int.reduceLT, Int.reduceLE, Int.reduceEq, Int.reduceNe, Int.reduceBEq, Int.reduceBNe, Int.reduceToNat, Int.reduceGT, Int.reduceGE, ↓reduceIte, decide_true, decide_false, eq_self, Nat.mul_one, Nat.zero_mul, Nat.one_mul, Int.le_refl, Nat.le_refl, Int.cast_ofNat_Int, hlt, hd, hb]
          refine hI1 _ ⟨k + 1, by omega, by rw [fsTo_succ, hno, hnx, hb]; rfl⟩ (by simp only; omega) ?_
          simp (decide := true) (maxSteps := 4000000) only [go_sem, Nat.reduceAdd, Nat.reduceSub, Nat.reduceMul, Nat.reduceDiv, Nat.reduceMod, Nat.reduceLT, Nat.reduceLeDiff, Nat.reduceEqDiff, Nat.reduceBEq, Nat.reduceBNe, Nat.reduceGT, Int.reduceAdd, Int.reduceSub, Int.reduceMul, Int.reduceNeg, Int.reduceLT, Int.reduceLE, Int.reduceEq, Int.reduceNe, Int.reduceBEq, Int.reduceBNe, Int.reduceToNat, Int.reduceGT, Int.reduceGE, ↓reduceIte, decide_true, decide_false, eq_self, Nat.mul_one, Nat.zero_mul, Nat.one_mul, Int.le_refl, Nat.le_refl, Int.cast_ofNat_Int, hc1]
      · have hke : k = l.length := by omega
        subst hke
        have e : idxBad l = -1 := by rw [hz, hno]; rfl
        simp (decide := true) (maxSteps := 4000000) only [go_sem, Nat.reduceAdd, Nat.reduceSub, Nat.reduceMul, Nat.reduceDiv, Nat.reduceMod, Nat.reduceLT, Nat.reduceLeDiff, Nat.reduceEqDiff, Nat.reduceBEq, Nat.reduceBNe, Nat.reduceGT, Int.reduceAdd, Int.reduceSub, Int.reduceMul, Int.reduceNeg, Int.reduceLT, Int.reduceLE, Int.reduceEq, Int.reduceNe, Int.reduceBEq, Int.reduceBNe, Int.reduceToNat, Int.reduceGT, Int.reduceGE, ↓reduceIte, decide_true, decide_false, eq_self, Nat.mul_one, Nat.zero_mul, Nat.one_mul, Int.le_refl, Nat.le_refl, Int.cast_ofNat_Int, hlt]
        refine hQ1 _ _ ?_
        simp (decide := true) (maxSteps := 4000000) only [go_sem, Nat.reduceAdd, Nat.reduceSub, Nat.reduceMul, Nat.reduceDiv, Nat.reduceMod, Nat.reduceLT, Nat.reduceLeDiff, Nat.reduceEqDiff, Nat.reduceBEq, Nat.reduceBNe, Nat.reduceGT, Int.reduceAdd, Int.reduceSub, Int.reduceMul, Int.reduceNeg, Int.reduceLT, Int.reduceLE, Int.reduceEq, Int.reduceNe, Int.reduceBEq, Int.reduceBNe, Int.reduceToNat, Int.reduceGT, Int.reduceGE, ↓reduceIte, decide_true, decide_false, eq_self, Nat.mul_one, Nat.zero_mul, Nat.one_mul, Int.le_refl, Nat.le_refl, Int.cast_ofNat_Int, e]
noncomputable def ixIndexFunc : List TV → Option TV
  | [s, .fn F [] []] => match rowL unI s with
    | some l => if l.length ≤ 17592186044415 ∧ F = 109 then some (.int .i64 (idxBad l)) else none
    | none => none
  | _ => none
theorem ixIndexFunc_ok : ∀ xs r, ixIndexFunc xs = some r → PCalls Tryd.prog 148 xs r := by
  intro xs r h
  unfold ixIndexFunc at h
  split at h
  · split at h
    · rename_i l hl
      have hl := rowL_some (un := unI) rfl (@unI_some) hl
      split at h
      · rename_i hc; cases h
        obtain ⟨h1, rfl⟩ := hc
        exact iIndexFunc_c hl h1
      · cases h
    · cases h
  · cases h
attribute [go_sem] ixIndexFunc
noncomputable def spD2 : Pm.Spec := spU1.one 148 ixIndexFunc
@[go_sem] theorem spD2_p (f : FuncId) (xs : List TV) : spD2.p f xs = Pm.Spec.p (spU1.one 148 ixIndexFunc) f xs := rfl
@[go_sem] theorem spD2_h (f : FuncId) (ps : List PV) (hl : List PO) : spD2.h f ps hl = Pm.Spec.h (spU1.one 148 ixIndexFunc) f ps hl := rfl
@[go_sem] theorem spD2_y (Y : Pm.YS) (f : FuncId) (ps : List PV) (hl : List PO) : spD2.y Y f ps hl = Pm.Spec.y (spU1.one 148 ixIndexFunc) Y f ps hl := rfl
@[go_sem] theorem spD2_fz (f : FuncId) : spD2.fz f = Pm.Spec.fz (spU1.one 148 ixIndexFunc) f := rfl
@[go_sem] theorem spD2_fr (f : FuncId) : spD2.fr f = Pm.Spec.fr (spU1.one 148 ixIndexFunc) f := rfl
@[go_sem] theorem spD2_yf (f : FuncId) : spD2.yf f = Pm.Spec.yf (spU1.one 148 ixIndexFunc) f := rfl
@[go_sem] theorem spD2_gd : spD2.gd = Pm.Spec.gd (spU1.one 148 ixIndexFunc) := rfl
@[go_sem] theorem spD2_mu (t : TypeId) : spD2.mu t = Pm.Spec.mu (spU1.one 148 ixIndexFunc) t := rfl
@[go_sem] theorem spD2_nf (t : TypeId) : spD2.nf t = Pm.Spec.nf (spU1.one 148 ixIndexFunc) t := rfl
theorem spD2_ok : SpecOk Tryd.prog spD2 := Spec.one_ok ixIndexFunc_ok spU1_ok
theorem iContains_c {l : List Int} {s : TV} (hl : IsRow ic s l) (hll : l.length ≤ 17592186044415) : PCalls Tryd.prog 108 [s, .fn 109 [] []] (.bool (!(l.all fun n => inB n 10 200))) := by
  have rI := rowI_is hl
  unfold rowL at rI
  have hb := idxBad_iff l
  refine pcalls_by Tryd.mixes spD2_ok (fn := Tryd.f108) Tryd.func108 rfl (by kernel_rfl) (by show 2 ≤ _; decide) ?_
  simp (decide := true) (maxSteps := 4000000) only [go_sem, Nat.reduceAdd, Nat.reduceSub, Nat.reduceMul, Nat.reduceDiv, Nat.reduceMod, Nat.reduceLT, Nat.reduceLeDiff, Nat.reduceEqDiff, Nat.reduceBEq, Nat.reduceBNe, Nat.reduceGT, Int.reduceAdd, Int.reduceSub, Int.reduceMul, Int.reduceNeg, Int.reduceLT, Int.reduceLE, Int.reduceEq, Int.reduceNe, Int.reduceBEq, Int.reduceBNe, Int.reduceToNat, Int.reduceGT, Int.reduceGE, ↓reduceIte, decide_true, decide_false, eq_self, Nat.mul_one, Nat.zero_mul, Nat.one_mul, Int.le_refl, Nat.le_refl, Int.cast_ofNat_Int, Tryd.f108, rI, hll, hb]
noncomputable def ixContains : List TV → Option TV
  | [s, .fn F [] []] => match rowL unI s with
    | some l => if l.length ≤ 17592186044415 ∧ F = 109 then some (.bool (!(l.all fun n => inB n 10 200))) else none
    | none => none
  | _ => none
theorem ixContains_ok : ∀ xs r, ixContains xs = some r → PCalls Tryd.prog 108 xs r := by
  intro xs r h
  unfold ixContains at h
  split at h
  · split at h
    · rename_i l hl
      have hl := rowL_some (un := unI) rfl (@unI_some) hl
      split at h
      · rename_i hc; cases h
        obtain ⟨h1, rfl⟩ := hc
        exact iContains_c hl h1
      · cases h
    · cases h
  · cases h
attribute [go_sem] ixContains
noncomputable def spD3 : Pm.Spec := spU1.one 108 ixContains
@[go_sem] theorem spD3_p (f : FuncId) (xs : List TV) : spD3.p f xs = Pm.Spec.p (spU1.one 108 ixContains) f xs := rfl
@[go_sem] theorem spD3_h (f : FuncId) (ps : List PV) (hl : List PO) : spD3.h f ps hl = Pm.Spec.h (spU1.one 108 ixContains) f ps hl := rfl
@[go_sem] theorem spD3_y (Y : Pm.YS) (f : FuncId) (ps : List PV) (hl : List PO) : spD3.y Y f ps hl = Pm.Spec.y (spU1.one 108 ixContains) Y f ps hl := rfl
@[go_sem] theorem spD3_fz (f : FuncId) : spD3.fz f = Pm.Spec.fz (spU1.one 108 ixContains) f := rfl
@[go_sem] theorem spD3_fr (f : FuncId) : spD3.fr f = Pm.Spec.fr (spU1.one 108 ixContains) f := rfl
@[go_sem] theorem spD3_yf (f : FuncId) : spD3.yf f = Pm.Spec.yf (spU1.one 108 ixContains) f := rfl
@[go_sem] theorem spD3_gd : spD3.gd = Pm.Spec.gd (spU1.one 108 ixContains) := rfl
@[go_sem] theorem spD3_mu (t : TypeId) : spD3.mu t = Pm.Spec.mu (spU1.one 108 ixContains) t := rfl
@[go_sem] theorem spD3_nf (t : TypeId) : spD3.nf t = Pm.Spec.nf (spU1.one 108 ixContains) t := rfl
theorem spD3_ok : SpecOk Tryd.prog spD3 := Spec.one_ok ixContains_ok spU1_ok
theorem iIsStock_c {l : List Int} {s : TV} (hl : IsRow ic s l) (hll : l.length ≤ 17592186044415) : PCalls Tryd.prog 60 [s] (.bool (stockOk1 l)) := by
  have rI := rowI_is hl
  unfold rowL at rI
  have e : stockOk1 l = (inB l.length 2 10 && l.all fun n => inB n 10 200) := rfl
  refine pcalls_by Tryd.mixes spD3_ok (fn := Tryd.f60) Tryd.func60 rfl (by kernel_rfl) (by show 1 ≤ _; decide) ?_
  rcases hl with ⟨rfl, rfl⟩ | ⟨f, rfl⟩
  · have h0 : inB 0 2 10 = false := rfl
    have e' : stockOk1 [] = false := rfl
    simp (decide := true) (maxSteps := 4000000) only [go_sem, Nat.reduceAdd, Nat.reduceSub, Nat.reduceMul, Nat.reduceDiv, Nat.reduceMod, Nat.reduceLT, Nat.reduceLeDiff, Nat.reduceEqDiff, Nat.reduceBEq, Nat.reduceBNe, Nat.reduceGT, Int.reduceAdd, Int.reduceSub, Int.reduceMul, Int.reduceNeg, Int.reduceLT, Int.reduceLE, Int.reduceEq, Int.reduceNe, Int.reduceBEq, Int.reduceBNe, Int.reduceToNat, Int.reduceGT, Int.reduceGE, ↓reduceIte, decide_true, decide_false, eq_self, Nat.mul_one, Nat.zero_mul, Nat.one_mul, Int.le_refl, Nat.le_refl, Int.cast_ofNat_Int, Tryd.f60, rI, h0, e']
  · rw [ic_ints] at rI ⊢
    simp only [unI_eq, if_true] at rI
    cases h1 : inB (l.length : Int) 2 10 <;> cases h2 : (l.all fun n => inB n 10 200) <;> rw [h1, h2] at e <;> simp (decide := true) (maxSteps := 4000000) only [go_sem, Nat.reduceAdd, Nat.reduceSub, Nat.reduceMul, Nat.reduceDiv, Nat.reduceMod, Nat.reduceLT, Nat.reduceLeDiff, Nat.reduceEqDiff, Nat.reduceBEq, Nat.reduceBNe, Nat.reduceGT, Int.reduceAdd, Int.reduceSub, Int.reduceMul, Int.reduceNeg, Int.reduceLT, Int.reduceLE, Int.reduceEq, Int.reduceNe, Int.reduceBEq, Int.reduceBNe, Int.reduceToNat, Int.reduceGT, Int.reduceGE, ↓reduceIte, decide_true, decide_false, eq_self, Nat.mul_one, Nat.zero_mul, Nat.one_mul, Int.le_refl, Nat.le_refl, Int.cast_ofNat_Int, Tryd.f60, unI_eq, hll, h1, h2, e]
noncomputable def ixIsStock : List TV → Option TV
  | [s] => match rowL unI s with
    | some l => if l.length ≤ 17592186044415 then some (.bool (stockOk1 l)) else none
    | none => none
  | _ => none
theorem ixIsStock_ok : ∀ xs r, ixIsStock xs = some r → PCalls Tryd.prog 60 xs r := by
  intro xs r h
  unfold ixIsStock at h
  split at h
  · split at h
    · rename_i l hl
      have hl := rowL_some (un := unI) (by first | rfl | exact unI_nil) (@unI_some) hl
      split at h
      · rename_i hc; cases h; exact iIsStock_c hl hc
      · cases h
    · cases h
  · cases h
attribute [go_sem] ixIsStock
/-- Do wheels fit? -/
theorem iFits_c {st : List Int} {p q : Int} {l : List Int} {s : TV} (f : TV → Option TV) (tt : Nat) (ht : tt = 202) (hf : ∀ i : Nat, i < st.length → f (.int .i64 i) = some (.int .i64 (nthI st i)))
    (hst : ∀ i : Int, 0 ≤ i → i < st.length → 0 ≤ nthI st i ∧ nthI st i ≤ 200) (hl : ∀ k : Nat, k < l.length → 0 ≤ nthI l k ∧ nthI l k < st.length) (hp : 0 ≤ p ∧ p ≤ 100000) (hq : 0 ≤ q ∧ q ≤ 100000) (h4 : l.length = 2 ∨ l.length = 4) (hs : IsRow ic s l) :
    HCalls Tryd.prog 110 [.t s, .ptr 0 0, .ptr 1 0, .ptr 2 0] (getL [.box [.t (.int .i64 q)], .box [.t (.int .i64 p)], .box [.mapr 3], .mp tt f]) (.t (.bool (fitsL st p q l))) (getL [.box [.t (.int .i64 q)], .box [.t (.int .i64 p)], .box [.mapr 3], .mp tt f]) := by
  obtain ⟨full, rfl⟩ := hs.ne (by omega)
  subst ht
  rw [ic_ints, drv_all st p q h4]
  refine hcalls_by Tryd.mixes noSpec_ok (fn := Tryd.f110) Tryd.func110 rfl (by kernel_rfl) (by show 4 ≤ _; decide) ?_
  simp (decide := true) (maxSteps := 4000000) only [go_sem, Nat.reduceAdd, Nat.reduceSub, Nat.reduceMul, Nat.reduceDiv, Nat.reduceMod, Nat.reduceLT, Nat.reduceLeDiff, Nat.reduceEqDiff, Nat.reduceBEq, Nat.reduceBNe, Nat.reduceGT, Int.reduceAdd, Int.reduceSub, Int.reduceMul, Int.reduceNeg, Int.reduceLT, Int.reduceLE, Int.reduceEq, Int.reduceNe, Int.reduceBEq, Int.reduceBNe, Int.reduceToNat, Int.reduceGT, Int.reduceGE, ↓reduceIte, decide_true, decide_false, eq_self, Nat.mul_one, Nat.zero_mul, Nat.one_mul, Int.le_refl, Nat.le_refl, Int.cast_ofNat_Int, Tryd.f110]
  refine pwpC_loopU (A := { k : Nat // k ≤ l.length }) [0, 1, 2, 3, 12, 13] (fun k => [(14, .t (.int .i64 k.1)), (6, .t (.int .i64 (drvTo st p q l k.1).1)), (7, .t (.int .i64 (drvTo st p q l k.1).2))]) (fun _ => []) (fun k => l.length - k.1) ⟨0, by omega⟩ (by decide) (fun _ => by rfl) ?_ fun Q1 hQ1 ⟨k, hk⟩ I1 hI1 => ?_
  · simp (decide := true) (maxSteps := 4000000) only [go_sem, Nat.reduceAdd, Nat.reduceSub, Nat.reduceMul, Nat.reduceDiv, Nat.reduceMod, Nat.reduceLT, Nat.reduceLeDiff, Nat.reduceEqDiff, Nat.reduceBEq, Nat.reduceBNe, Nat.reduceGT, Int.reduceAdd, Int.reduceSub, Int.reduceMul, Int.reduceNeg, Int.reduceLT, Int.reduceLE, Int.reduceEq, Int.reduceNe, Int.reduceBEq, Int.reduceBNe, Int.reduceToNat, Int.reduceGT, Int.reduceGE, ↓reduceIte, decide_true, decide_false, eq_self, Nat.mul_one, Nat.zero_mul, Nat.one_mul, Int.le_refl, Nat.le_refl, Int.cast_ofNat_Int, drvTo]
  · by_cases hlt : (k : Int) < l.length
    · obtain ⟨x, hx⟩ := get_lt hlt
      have hd := ints_at hx
      rw [Nat.mul_one] at hd
      have hnx := nthI_at hx
      have hc1 : IntKind.i64.wrap (k + 1) = ((k + 1 : Nat) : Int) := by rw [wrap_in (by omega) (by omega)]; omega
      have hxb := hl k (by omega)
      rw [hnx] at hxb
      obtain ⟨j, rfl⟩ := Int.eq_ofNat_of_zero_le hxb.1
      have hfj := hf j (by omega)
      have hsj := hst j hxb.1 hxb.2
      have hdb := drv_bound (p := p) (q := q) hst hl hp hq k hk
      have h4k := pow4 (show k ≤ 4 by omega)
      have hsu : drvTo st p q l (k + 1) = if k % 2 = 0 then ((drvTo st p q l k).1 * nthI st j, (drvTo st p q l k).2) else ((drvTo st p q l k).1, (drvTo st p q l k).2 * nthI st j) := by rw [drvTo, hnx]
      generalize (100000 : Int) * 200 ^ k = X at *
      have m1 := mulB hdb.1.1 hsj.1 hdb.1.2 hsj.2
      have m2 := mulB hdb.2.1 hsj.1 hdb.2.2 hsj.2
      have w1 : IntKind.i64.wrap ((drvTo st p q l k).1 * nthI st j) = (drvTo st p q l k).1 * nthI st j := wrap_in (by omega) (by omega)
      have w2 : IntKind.i64.wrap ((drvTo st p q l k).2 * nthI st j) = (drvTo st p q l k).2 * nthI st j := wrap_in (by omega) (by omega)
      have hmod : ((k : Int).tmod 2) = ((k % 2 : Nat) : Int) := (Int.ofNat_tmod k 2).symm
      by_cases hk2 : k % 2 = 0
      · rw [if_pos hk2] at hsu
        have e1 : (((k % 2 : Nat) : Int) == 0) = true := beq_int_t (by omega)
        simp (decide := true) (maxSteps := 4000000) only [go_sem, Nat.reduceAdd, Nat.reduceSub, Nat.reduceMul, Nat.reduceDiv, Nat.reduceMod, Nat.reduceLT, Nat.reduceLeDiff, Nat.reduceEqDiff, Nat.reduceBEq, Nat.reduceBNe, Nat.reduceGT, Int.reduceAdd, Int.reduceSub, Int.reduceMul, Int.reduceNeg, Int.reduceLT, Int.reduceLE, Int.reduceEq, Int.reduceNe, Int.reduceBEq, Int.reduceBNe, Int.reduceToNat, Int.reduceGT, Int.reduceGE, ↓reduceIte, decide_true, decide_false, eq_self, Nat.mul_one, Nat.zero_mul, Nat.one_mul, Int.le_refl, Nat.le_refl, Int.cast_ofNat_Int, hlt, hd, hmod, e1, hfj, Option.getD_some, w1]
        refine hI1 _ ⟨k + 1, by omega⟩ (by simp only; omega) ?_
        simp (decide := true) (maxSteps := 4000000) only [go_sem, Nat.reduceAdd, Nat.reduceSub, Nat.reduceMul, Nat.reduceDiv, Nat.reduceMod, Nat.reduceLT, Nat.reduceLeDiff, Nat.reduceEqDiff, Nat.reduceBEq, Nat.reduceBNe, Nat.reduceGT, Int.reduceAdd, Int.reduceSub, Int.reduceMul, Int.reduceNeg, Int.reduceLT, Int.reduceLE, Int.reduceEq, Int.reduceNe, Int.reduceBEq, Int.reduceBNe, Int.reduceToNat, Int.reduceGT, Int.reduceGE, ↓reduceIte, decide_true, decide_false, eq_self, Nat.mul_one, Nat.zero_mul, Nat.one_mul, Int.le_refl, Nat.le_refl, Int.cast_ofNat_Int, hc1, hsu]
      · rw [if_neg hk2] at hsu
        have e1 : (((k % 2 : Nat) : Int) == 0) = false := beq_int_f (by omega)
        simp (decide := true) (maxSteps := 4000000) only [go_sem, Nat.reduceAdd, Nat.reduceSub, Nat.reduceMul, Nat.reduceDiv, Nat.reduceMod, Nat.reduceLT, Nat.reduceLeDiff, Nat.reduceEqDiff, Nat.reduceBEq, Nat.reduceBNe, Nat.reduceGT, Int.reduceAdd, Int.reduceSub, Int.reduceMul, Int.reduceNeg, Int.reduceLT, Int.reduceLE, Int.reduceEq, Int.reduceNe, Int.reduceBEq, Int.reduceBNe, Int.reduceToNat, Int.reduceGT, Int.reduceGE, ↓reduceIte, decide_true, decide_false, eq_self, Nat.mul_one, Nat.zero_mul, Nat.one_mul, Int.le_refl, Nat.le_refl, Int.cast_ofNat_Int, hlt, hd, hmod, e1, hfj, Option.getD_some, w2]
        refine hI1 _ ⟨k + 1, by omega⟩ (by simp only; omega) ?_
        simp (decide := true) (maxSteps := 4000000) only [go_sem, Nat.reduceAdd, Nat.reduceSub, Nat.reduceMul, Nat.reduceDiv, Nat.reduceMod, Nat.reduceLT, Nat.reduceLeDiff, Nat.reduceEqDiff, Nat.reduceBEq, Nat.reduceBNe, Nat.reduceGT, Int.reduceAdd, Int.reduceSub, Int.reduceMul, Int.reduceNeg, Int.reduceLT, Int.reduceLE, Int.reduceEq, Int.reduceNe, Int.reduceBEq, Int.reduceBNe, Int.reduceToNat, Int.reduceGT, Int.reduceGE, ↓reduceIte, decide_true, decide_false, eq_self, Nat.mul_one, Nat.zero_mul, Nat.one_mul, Int.le_refl, Nat.le_refl, Int.cast_ofNat_Int, hc1, hsu]
    · have hke : k = l.length := by omega
      subst hke
      simp (decide := true) (maxSteps := 4000000) only [go_sem, Nat.reduceAdd, Nat.reduceSub, Nat.reduceMul, Nat.reduceDiv, Nat.reduceMod, Nat.reduceLT, Nat.reduceLeDiff, Nat.reduceEqDiff, Nat.reduceBEq, Nat.reduceBNe, Nat.reduceGT, Int.reduceAdd, Int.reduceSub, Int.reduceMul, Int.reduceNeg, Int.reduceLT, Int.reduceLE, Int.reduceEq, Int.reduceNe, Int.reduceBEq, Int.reduceBNe, Int.reduceToNat, Int.reduceGT, Int.reduceGE, ↓reduceIte, decide_true, decide_false, eq_self, Nat.mul_one, Nat.zero_mul, Nat.one_mul, Int.le_refl, Nat.le_refl, Int.cast_ofNat_Int, hlt]
      refine hQ1 _ _ ?_
      simp (decide := true) (maxSteps := 4000000) only [go_sem, Nat.reduceAdd, Nat.reduceSub, Nat.reduceMul, Nat.reduceDiv, Nat.reduceMod, Nat.reduceLT, Nat.reduceLeDiff, Nat.reduceEqDiff, Nat.reduceBEq, Nat.reduceBNe, Nat.reduceGT, Int.reduceAdd, Int.reduceSub, Int.reduceMul, Int.reduceNeg, Int.reduceLT, Int.reduceLE, Int.reduceEq, Int.reduceNe, Int.reduceBEq, Int.reduceBNe, Int.reduceToNat, Int.reduceGT, Int.reduceGE, ↓reduceIte, decide_true, decide_false, eq_self, Nat.mul_one, Nat.zero_mul, Nat.one_mul, Int.le_refl, Nat.le_refl, Int.cast_ofNat_Int]
      exact ⟨_, rfl, rfl⟩
end Go.Proofs.YtlonlnfenbadbaaDoor.Ix

/- Part Ie. -/
namespace Go.Oc.Ix
end Go.Oc.Ix
namespace Go.Proofs.YtlonlnfenbadbaaDoor.Ix
end Go.Proofs.YtlonlnfenbadbaaDoor.Ix
namespace Go.Oc.Ix
open Go Go.Pm
set_option maxRecDepth 100000
def noTn : Tn := ⟨-1, -1, -1, -1⟩
theorem allO_t (xs ys : List TV) : allO (List.map PV.toT (List.map PV.t xs ++ List.map PV.t ys)) = some (xs ++ ys) := by
  rw [← List.map_append, List.map_map]
  generalize xs ++ ys = zs
  induction zs with
  | nil => rfl
  | cons z zs ih => simp only [List.map_cons, Function.comp, PV.toT, allO, ih, Option.map_some]
theorem allO_t1 (xs : List TV) (y : TV) : allO (List.map PV.toT (List.map PV.t xs ++ [PV.t y])) = some (xs ++ [y]) := allO_t xs [y]
/-- The map of the teeth, of the first ones. -/
noncomputable def tMap (st : List Int) (k : Nat) : TV → Option TV := (List.range k).foldl (fun g (i : Nat) => updT g (.int .i64 i) (.int .i64 (nthI st i))) fun _ => none
theorem tMap_succ (st : List Int) (k : Nat) : tMap st (k + 1) = updT (tMap st k) (.int .i64 k) (.int .i64 (nthI st k)) := by
  unfold tMap; rw [List.range_succ, List.foldl_append]; rfl
theorem tMap_at (st : List Int) : ∀ {k i : Nat}, i < k → tMap st k (.int .i64 i) = some (.int .i64 (nthI st i))
  | k + 1, i, h => by
    rw [tMap_succ]
    unfold updT
    by_cases hik : i = k
    · subst hik; rw [if_pos rfl]
    · rw [if_neg (by intro e; simp only [TV.int.injEq, true_and] at e; omega)]
      exact tMap_at st (by omega)
/-- Indices of a stock. -/
def idxOk (st l : List Int) : Bool := l.all fun x => inB x 0 ((st.length : Int) - 1)
theorem idxOk_at {st l : List Int} (h : idxOk st l = true) (k : Nat) (hk : k < l.length) : 0 ≤ nthI l k ∧ nthI l k < st.length := by
  have hx : l[k]? = some l[k] := List.getElem?_eq_getElem hk
  rw [nthI_at hx]
  have := inB_iff.1 (List.all_eq_true.1 h l[k] (List.getElem_mem _))
  omega
/-- What the step of the search tries. -/
def srchF (st : List Int) (p q : Int) (d : Nat) (l : List Int) (i : Nat) : Option (List Int) := if l.contains (i : Int) then none else srch st p q d (l ++ [(i : Int)])
theorem srch_succ (st : List Int) (p q : Int) (d : Nat) (l : List Int) : srch st p q (d + 1) l = fsTo (srchF st p q d l) st.length := rfl
def resT (o : Option (List Int)) : Tn := (o.map tnOf).getD noTn
end Go.Oc.Ix
namespace Go.Proofs.YtlonlnfenbadbaaDoor.Ix
open Go.RowKit Go.Pm Go.Oc Go.Oc.Ix
set_option maxRecDepth 100000
set_option linter.unusedVariables false
set_option maxHeartbeats 4000000

def chH (st : List Int) (full : Bool) (p q : Int) (f : TV → Option TV) (t : Tn) : List PO :=
  [.box [.fnc 110 [4, 5, 6]], .box [.t (.int .i64 t.a), .t (.int .i64 t.b), .t (.int .i64 t.c), .t (.int .i64 t.d)], .box [.t (.sl (ints st) st.length full)], .box [.fnc 111 [0, 1, 2, 3]], .box [.t (.int .i64 q)], .box [.t (.int .i64 p)], .box [.mapr 7], .mp 202 f]
open Classical in
noncomputable def gFits (st : List Int) : List PV → List PO → Option (PV × List PO)
  | [.t s, .ptr 0 0, .ptr 1 0, .ptr 2 0], [.box [.t (.int .i64 q)], .box [.t (.int .i64 p)], .box [.mapr 3], .mp tt f] => match rowL unI s with
    | some l => if tt = 202 ∧ (∀ i : Nat, i < st.length → f (.int .i64 i) = some (.int .i64 (nthI st i))) ∧ idxOk st l = true ∧ ((0 ≤ p ∧ p ≤ 100000) ∧ 0 ≤ q ∧ q ≤ 100000) ∧ (l.length = 2 ∨ l.length = 4) then
        some (.t (.bool (fitsL st p q l)), [.box [.t (.int .i64 q)], .box [.t (.int .i64 p)], .box [.mapr 3], .mp tt f]) else none
    | none => none
  | _, _ => none
theorem gFits_ok {st : List Int} (hst : ∀ i : Int, 0 ≤ i → i < st.length → 0 ≤ nthI st i ∧ nthI st i ≤ 200) : ∀ xs hl r hl', gFits st xs hl = some (r, hl') → HCalls Tryd.prog 110 xs (getL hl) r (getL hl') := by
  intro xs hl r hl' h
  unfold gFits at h
  split at h
  · split at h
    · rename_i l hr
      have hr := rowL_some (un := unI) rfl (@unI_some) hr
      split at h
      · rename_i hc
        simp only [Option.some.injEq, Prod.mk.injEq] at h
        obtain ⟨rfl, rfl⟩ := h
        exact iFits_c _ _ hc.1 hc.2.1 hst (idxOk_at hc.2.2.1) hc.2.2.2.1.1 hc.2.2.2.1.2 hc.2.2.2.2 hr
      · cases h
    · cases h
  · cases h
/-- The contract of choose, with so many wheels to go. -/
def ChooseC (st : List Int) (full : Bool) (p q : Int) (f : TV → Option TV) (d : Nat) : Prop := ∀ (l : List Int) (s : TV) (many : Nat), IsRow ic s l → l.length + d = many → (many = 2 ∨ many = 4) → idxOk st l = true →
  HCalls Tryd.prog 111 [.t s, .t (.int .i64 many), .ptr 0 0, .ptr 1 0, .ptr 2 0, .ptr 3 0] (getL (chH st full p q f noTn)) (.t (.bool (srch st p q d l).isSome)) (getL (chH st full p q f (resT (srch st p q d l))))
open Classical in
noncomputable def gChoose (st : List Int) (full : Bool) (p q : Int) (f : TV → Option TV) (d : Nat) : List PV → List PO → Option (PV × List PO)
  | [.t s, .t (.int .i64 m), .ptr 0 0, .ptr 1 0, .ptr 2 0, .ptr 3 0], hl => match rowL unI s with
    | some l => if hl = chH st full p q f noTn ∧ m = ((l.length + d : Nat) : Int) ∧ (l.length + d = 2 ∨ l.length + d = 4) ∧ idxOk st l = true then
        some (.t (.bool (srch st p q d l).isSome), chH st full p q f (resT (srch st p q d l))) else none
    | none => none
  | _, _ => none
theorem gChoose_ok {st : List Int} {full : Bool} {p q : Int} {f : TV → Option TV} {d : Nat} (h : ChooseC st full p q f d) : ∀ xs hl r hl', gChoose st full p q f d xs hl = some (r, hl') → HCalls Tryd.prog 111 xs (getL hl) r (getL hl') := by
  intro xs hl r hl' hg
  unfold gChoose at hg
  split at hg
  · split at hg
    · rename_i l hr
      have hr := rowL_some (un := unI) rfl (@unI_some) hr
      split at hg
      · rename_i hc
        simp only [Option.some.injEq, Prod.mk.injEq] at hg
        obtain ⟨rfl, rfl⟩ := hg
        obtain ⟨rfl, rfl, h2, h3⟩ := hc
        exact h l _ _ hr rfl h2 h3
      · cases hg
    · cases hg
  · cases hg
theorem choose_zero {st : List Int} (full : Bool) {p q : Int} {f : TV → Option TV} (hf : ∀ i : Nat, i < st.length → f (.int .i64 i) = some (.int .i64 (nthI st i)))
    (hst : ∀ i : Int, 0 ≤ i → i < st.length → 0 ≤ nthI st i ∧ nthI st i ≤ 200) (hp : 0 ≤ p ∧ p ≤ 100000) (hq : 0 ≤ q ∧ q ≤ 100000) : ChooseC st full p q f 0 := by
  intro l s many hs hm h24 hidx
  have hm : l.length = many := by omega
  subst hm
  obtain ⟨fl, rfl⟩ := hs.ne (by omega)
  rw [ic_ints]
  have hfT : (∀ i : Nat, i < st.length → f (.int .i64 i) = some (.int .i64 (nthI st i))) = True := eq_true hf
  have hsr : srch st p q 0 l = if fitsL st p q l = true then some l else none := rfl
  rw [hsr]
  refine hcalls_by Tryd.mixes (Spec.oneH_ok (gFits_ok hst) noSpec_ok) (fn := Tryd.f111) Tryd.func111 rfl (by kernel_rfl) (by show 6 ≤ _; decide) ?_
  cases hft : fitsL st p q l with
  | false =>
    simp (decide := true) (maxSteps := 4000000) only [go_sem, Nat.reduceAdd, Nat.reduceSub, Nat.reduceMul, Nat.reduceDiv, Nat.reduceMod, Nat.reduceLT, Nat.reduceLeDiff, Nat.reduceEqDiff, Nat.reduceBEq, Nat.reduceBNe, Nat.reduceGT, Int.reduceAdd, Int.reduceSub, Int.reduceMul, Int.reduceNeg, Int.reduceLT, Int.reduceLE, Int.reduceEq, Int.reduceNe, Int.reduceBEq, Int.reduceBNe, Int.reduceToNat, Int.reduceGT, Int.reduceGE, ↓reduceIte, decide_true, decide_false, eq_self, Nat.mul_one, Nat.zero_mul, Nat.one_mul, Int.le_refl, Nat.le_refl, Int.cast_ofNat_Int, Tryd.f111, chH, noTn, resT, beq_self_eq_true, gFits, unI_eq, hfT, hidx, hp, hq, h24, hft, Option.map_none, Option.getD_none]
    first | done | exact ⟨_, rfl, rfl⟩
  | true =>
    match l, h24, hft, hidx with
    | [a, b], _, hft, hidx =>
      simp (decide := true) (maxSteps := 4000000) only [go_sem, Nat.reduceAdd, Nat.reduceSub, Nat.reduceMul, Nat.reduceDiv, Nat.reduceMod, Nat.reduceLT, Nat.reduceLeDiff, Nat.reduceEqDiff, Nat.reduceBEq, Nat.reduceBNe, Nat.reduceGT, Int.reduceAdd, Int.reduceSub, Int.reduceMul, Int.reduceNeg, Int.reduceLT, Int.reduceLE, Int.reduceEq, Int.reduceNe, Int.reduceBEq, Int.reduceBNe, Int.reduceToNat, Int.reduceGT, Int.reduceGE, ↓reduceIte, decide_true, decide_false, eq_self, Nat.mul_one, Nat.zero_mul, Nat.one_mul, Int.le_refl, Nat.le_refl, Int.cast_ofNat_Int, Tryd.f111, chH, noTn, resT, beq_self_eq_true, gFits, unI_eq, hfT, hidx, hp, hq, hft, ints, unI, tnOf]
      first | done | exact ⟨_, rfl, rfl⟩
    | [a, b, c, d], _, hft, hidx =>
      simp (decide := true) (maxSteps := 4000000) only [go_sem, Nat.reduceAdd, Nat.reduceSub, Nat.reduceMul, Nat.reduceDiv, Nat.reduceMod, Nat.reduceLT, Nat.reduceLeDiff, Nat.reduceEqDiff, Nat.reduceBEq, Nat.reduceBNe, Nat.reduceGT, Int.reduceAdd, Int.reduceSub, Int.reduceMul, Int.reduceNeg, Int.reduceLT, Int.reduceLE, Int.reduceEq, Int.reduceNe, Int.reduceBEq, Int.reduceBNe, Int.reduceToNat, Int.reduceGT, Int.reduceGE, ↓reduceIte, decide_true, decide_false, eq_self, Nat.mul_one, Nat.zero_mul, Nat.one_mul, Int.le_refl, Nat.le_refl, Int.cast_ofNat_Int, Tryd.f111, chH, noTn, resT, beq_self_eq_true, gFits, unI_eq, hfT, hidx, hp, hq, hft, ints, unI, tnOf]
      first | done | exact ⟨_, rfl, rfl⟩
theorem unI_snoc (l : List Int) (x : Int) : unI (ints l ++ [.int .i64 x]) = some (l ++ [x]) := by rw [← ints_snoc]; exact unI_eq _
theorem choose_succ {st : List Int} (full : Bool) {p q : Int} {f : TV → Option TV} (hs10 : st.length ≤ 10) {d : Nat} (ih : ChooseC st full p q f d) : ChooseC st full p q f (d + 1) := by
  intro l s many hs hm h24 hidx
  have hne : ((l.length : Int) == (many : Int)) = false := beq_int_f (by omega)
  have hl4 : l.length ≤ 3 := by omega
  rw [srch_succ]
  have hmE : ((many : Int) = ((l.length + 1 + d : Nat) : Int)) = True := eq_true (by omega)
  have h2E : (l.length + 1 + d = 2 ∨ l.length + 1 + d = 4) = True := eq_true (by omega)
  refine hcalls_by Tryd.mixes (Spec.oneH_ok (gChoose_ok ih) noSpec_ok) (fn := Tryd.f111) Tryd.func111 rfl (by kernel_rfl) (by show 6 ≤ _; decide) ?_
  have inv : ∀ i : Nat, i < st.length → idxOk st (l ++ [(i : Int)]) = true := fun i hi => by
    unfold idxOk at hidx ⊢
    rw [List.all_append, hidx]
    simp [inB]; omega
  rcases hs with ⟨rfl, rfl⟩ | ⟨fl, rfl⟩
  · simp only [List.length_nil, Int.cast_ofNat_Int, Nat.zero_add] at hne hmE h2E
    simp (decide := true) (maxSteps := 4000000) only [go_sem, Nat.reduceAdd, Nat.reduceSub, Nat.reduceMul, Nat.reduceDiv, Nat.reduceMod, Nat.reduceLT, Nat.reduceLeDiff, Nat.reduceEqDiff, Nat.reduceBEq, Nat.reduceBNe, Nat.reduceGT, Int.reduceAdd, Int.reduceSub, Int.reduceMul, Int.reduceNeg, Int.reduceLT, Int.reduceLE, Int.reduceEq, Int.reduceNe, Int.reduceBEq, Int.reduceBNe, Int.reduceToNat, Int.reduceGT, Int.reduceGE, ↓reduceIte, decide_true, decide_false, eq_self, Nat.mul_one, Nat.zero_mul, Nat.one_mul, Int.le_refl, Nat.le_refl, Int.cast_ofNat_Int, Tryd.f111, chH, noTn, hne]
    refine pwpC_loopU (A := { i : Nat // i ≤ st.length ∧ fsTo (srchF st p q d []) i = none }) [0, 1, 2, 3, 4, 5, 8, 39] (fun i => [(40, .t (.int .i64 i.1))]) (fun _ => []) (fun i => st.length - i.1) ⟨0, by omega, rfl⟩ (by decide) (fun _ => by rfl) ?_ fun Q1 hQ1 ⟨i, hi, hno⟩ I1 hI1 => ?_
    · simp (decide := true) (maxSteps := 4000000) only [go_sem, Nat.reduceAdd, Nat.reduceSub, Nat.reduceMul, Nat.reduceDiv, Nat.reduceMod, Nat.reduceLT, Nat.reduceLeDiff, Nat.reduceEqDiff, Nat.reduceBEq, Nat.reduceBNe, Nat.reduceGT, Int.reduceAdd, Int.reduceSub, Int.reduceMul, Int.reduceNeg, Int.reduceLT, Int.reduceLE, Int.reduceEq, Int.reduceNe, Int.reduceBEq, Int.reduceBNe, Int.reduceToNat, Int.reduceGT, Int.reduceGE, ↓reduceIte, decide_true, decide_false, eq_self, Nat.mul_one, Nat.zero_mul, Nat.one_mul, Int.le_refl, Nat.le_refl, Int.cast_ofNat_Int]
    · by_cases hlt : (i : Int) < st.length
      · have hi1 : IntKind.i64.wrap (i + 1) = ((i + 1 : Nat) : Int) := by rw [wrap_in (by omega) (by omega)]; omega
        simp (decide := true) (maxSteps := 4000000) only [go_sem, Nat.reduceAdd, Nat.reduceSub, Nat.reduceMul, Nat.reduceDiv, Nat.reduceMod, Nat.reduceLT, Nat.reduceLeDiff, Nat.reduceEqDiff, Nat.reduceBEq, Nat.reduceBNe, Nat.reduceGT, Int.reduceAdd, Int.reduceSub, Int.reduceMul, Int.reduceNeg, Int.reduceLT, Int.reduceLE, Int.reduceEq, Int.reduceNe, Int.reduceBEq, Int.reduceBNe, Int.reduceToNat, Int.reduceGT, Int.reduceGE, ↓reduceIte, decide_true, decide_false, eq_self, Nat.mul_one, Nat.zero_mul, Nat.one_mul, Int.le_refl, Nat.le_refl, Int.cast_ofNat_Int, hlt]
        refine pwpC_loopU (A := Unit) [0, 1, 2, 3, 4, 5, 8, 9, 39, 40, 43, 44] (fun _ => [(45, .t (.int .i64 0))]) (fun _ => []) (fun _ => 0) () (by decide) (fun _ => by rfl) ?_ fun Q2 hQ2 _ I2 hI2 => ?_
        · simp (decide := true) (maxSteps := 4000000) only [go_sem, Nat.reduceAdd, Nat.reduceSub, Nat.reduceMul, Nat.reduceDiv, Nat.reduceMod, Nat.reduceLT, Nat.reduceLeDiff, Nat.reduceEqDiff, Nat.reduceBEq, Nat.reduceBNe, Nat.reduceGT, Int.reduceAdd, Int.reduceSub, Int.reduceMul, Int.reduceNeg, Int.reduceLT, Int.reduceLE, Int.reduceEq, Int.reduceNe, Int.reduceBEq, Int.reduceBNe, Int.reduceToNat, Int.reduceGT, Int.reduceGE, ↓reduceIte, decide_true, decide_false, eq_self, Nat.mul_one, Nat.zero_mul, Nat.one_mul, Int.le_refl, Nat.le_refl, Int.cast_ofNat_Int]
        · simp (decide := true) (maxSteps := 4000000) only [go_sem, Nat.reduceAdd, Nat.reduceSub, Nat.reduceMul, Nat.reduceDiv, Nat.reduceMod, Nat.reduceLT, Nat.reduceLeDiff, Nat.reduceEqDiff, Nat.reduceBEq, Nat.reduceBNe, Nat.reduceGT, Int.reduceAdd, Int.reduceSub, Int.reduceMul, Int.reduceNeg, Int.reduceLT, Int.reduceLE, Int.reduceEq, Int.reduceNe, Int.reduceBEq, Int.reduceBNe, Int.reduceToNat, Int.reduceGT, Int.reduceGE, ↓reduceIte, decide_true, decide_false, eq_self, Nat.mul_one, Nat.zero_mul, Nat.one_mul, Int.le_refl, Nat.le_refl, Int.cast_ofNat_Int]
          refine hQ2 _ _ ?_
          have hsf : srchF st p q d [] i = srch st p q d [(i : Int)] := by unfold srchF; rw [if_neg (by simp)]; rfl
          have hii := inv i (by omega)
          rw [List.nil_append] at hii
          cases hsr : srch st p q d [(i : Int)] with
          | none =>
            rw [hsr] at hsf
            simp (decide := true) (maxSteps := 4000000) only [go_sem, Nat.reduceAdd, Nat.reduceSub, Nat.reduceMul, Nat.reduceDiv, Nat.reduceMod, Nat.reduceLT, Nat.reduceLeDiff, Nat.reduceEqDiff, Nat.reduceBEq, Nat.reduceBNe, Nat.reduceGT, Int.reduceAdd, Int.reduceSub, Int.reduceMul, Int.reduceNeg, Int.reduceLT, Int.reduceLE, Int.reduceEq, Int.reduceNe, Int.reduceBEq, Int.reduceBNe, Int.reduceToNat, Int.reduceGT, Int.reduceGE, ↓reduceIte, decide_true, decide_false, eq_self, Nat.mul_one, Nat.zero_mul, Nat.one_mul, Int.le_refl, Nat.le_refl, Int.cast_ofNat_Int, gChoose, unI, chH, noTn, hsr, resT, hmE, h2E, hii, Option.map_none, Option.getD_none]
            refine hI1 _ ⟨i + 1, by omega, by rw [fsTo_succ, hno]; exact hsf⟩ (by simp only; omega) ?_
            simp (decide := true) (maxSteps := 4000000) only [go_sem, Nat.reduceAdd, Nat.reduceSub, Nat.reduceMul, Nat.reduceDiv, Nat.reduceMod, Nat.reduceLT, Nat.reduceLeDiff, Nat.reduceEqDiff, Nat.reduceBEq, Nat.reduceBNe, Nat.reduceGT, Int.reduceAdd, Int.reduceSub, Int.reduceMul, Int.reduceNeg, Int.reduceLT, Int.reduceLE, Int.reduceEq, Int.reduceNe, Int.reduceBEq, Int.reduceBNe, Int.reduceToNat, Int.reduceGT, Int.reduceGE, ↓reduceIte, decide_true, decide_false, eq_self, Nat.mul_one, Nat.zero_mul, Nat.one_mul, Int.le_refl, Nat.le_refl, Int.cast_ofNat_Int, hi1]
          | some L =>
            rw [hsr] at hsf
            have hall := fsTo_hit hno (show i < st.length by omega) hsf
            simp (decide := true) (maxSteps := 4000000) only [go_sem, Nat.reduceAdd, Nat.reduceSub, Nat.reduceMul, Nat.reduceDiv, Nat.reduceMod, Nat.reduceLT, Nat.reduceLeDiff, Nat.reduceEqDiff, Nat.reduceBEq, Nat.reduceBNe, Nat.reduceGT, Int.reduceAdd, Int.reduceSub, Int.reduceMul, Int.reduceNeg, Int.reduceLT, Int.reduceLE, Int.reduceEq, Int.reduceNe, Int.reduceBEq, Int.reduceBNe, Int.reduceToNat, Int.reduceGT, Int.reduceGE, ↓reduceIte, decide_true, decide_false, eq_self, Nat.mul_one, Nat.zero_mul, Nat.one_mul, Int.le_refl, Nat.le_refl, Int.cast_ofNat_Int, gChoose, unI, chH, noTn, hsr, resT, hmE, h2E, hii]
            try (refine hQ1 _ _ ?_)
            try simp (decide := true) (maxSteps := 4000000) only [go_sem, Nat.reduceAdd, Nat.reduceSub, Nat.reduceMul, Nat.reduceDiv, Nat.reduceMod, Nat.reduceLT, Nat.reduceLeDiff, Nat.reduceEqDiff, Nat.reduceBEq, Nat.reduceBNe, Nat.reduceGT, Int.reduceAdd, Int.reduceSub, Int.reduceMul, Int.reduceNeg, Int.reduceLT, Int.reduceLE, Int.reduceEq, Int.reduceNe, Int.reduceBEq, Int.reduceBNe, Int.reduceToNat, Int.reduceGT, Int.reduceGE, ↓reduceIte, decide_true, decide_false, eq_self, Nat.mul_one, Nat.zero_mul, Nat.one_mul, Int.le_refl, Nat.le_refl, Int.cast_ofNat_Int]
            rw [hall]
            first | exact ⟨_, rfl, rfl⟩ | exact ⟨_, rfl, rfl, rfl, rfl, rfl, rfl⟩
      · have hie : i = st.length := by omega
        subst hie
        simp (decide := true) (maxSteps := 4000000) only [go_sem, Nat.reduceAdd, Nat.reduceSub, Nat.reduceMul, Nat.reduceDiv, Nat.reduceMod, Nat.reduceLT, Nat.reduceLeDiff, Nat.reduceEqDiff, Nat.reduceBEq, Nat.reduceBNe, Nat.reduceGT, Int.reduceAdd, Int.reduceSub, Int.reduceMul, Int.reduceNeg, Int.reduceLT, Int.reduceLE, Int.reduceEq, Int.reduceNe, Int.reduceBEq, Int.reduceBNe, Int.reduceToNat, Int.reduceGT, Int.reduceGE, ↓reduceIte, decide_true, decide_false, eq_self, Nat.mul_one, Nat.zero_mul, Nat.one_mul, Int.le_refl, Nat.le_refl, Int.cast_ofNat_Int, hlt]
        refine hQ1 _ _ ?_
        simp (decide := true) (maxSteps := 4000000) only [go_sem, Nat.reduceAdd, Nat.reduceSub, Nat.reduceMul, Nat.reduceDiv, Nat.reduceMod, Nat.reduceLT, Nat.reduceLeDiff, Nat.reduceEqDiff, Nat.reduceBEq, Nat.reduceBNe, Nat.reduceGT, Int.reduceAdd, Int.reduceSub, Int.reduceMul, Int.reduceNeg, Int.reduceLT, Int.reduceLE, Int.reduceEq, Int.reduceNe, Int.reduceBEq, Int.reduceBNe, Int.reduceToNat, Int.reduceGT, Int.reduceGE, ↓reduceIte, decide_true, decide_false, eq_self, Nat.mul_one, Nat.zero_mul, Nat.one_mul, Int.le_refl, Nat.le_refl, Int.cast_ofNat_Int]
        rw [hno]
        first | exact ⟨_, rfl, rfl⟩ | exact ⟨_, rfl, rfl, rfl, rfl, rfl, rfl⟩
  · rw [ic_ints]
    simp (decide := true) (maxSteps := 4000000) only [go_sem, Nat.reduceAdd, Nat.reduceSub, Nat.reduceMul, Nat.reduceDiv, Nat.reduceMod, Nat.reduceLT, Nat.reduceLeDiff, Nat.reduceEqDiff, Nat.reduceBEq, Nat.reduceBNe, Nat.reduceGT, Int.reduceAdd, Int.reduceSub, Int.reduceMul, Int.reduceNeg, Int.reduceLT, Int.reduceLE, Int.reduceEq, Int.reduceNe, Int.reduceBEq, Int.reduceBNe, Int.reduceToNat, Int.reduceGT, Int.reduceGE, ↓reduceIte, decide_true, decide_false, eq_self, Nat.mul_one, Nat.zero_mul, Nat.one_mul, Int.le_refl, Nat.le_refl, Int.cast_ofNat_Int, Tryd.f111, chH, noTn, hne]
    refine pwpC_loopU (A := { i : Nat // i ≤ st.length ∧ fsTo (srchF st p q d l) i = none }) [0, 1, 2, 3, 4, 5, 8, 39] (fun i => [(40, .t (.int .i64 i.1))]) (fun _ => []) (fun i => st.length - i.1) ⟨0, by omega, rfl⟩ (by decide) (fun _ => by rfl) ?_ fun Q1 hQ1 ⟨i, hi, hno⟩ I1 hI1 => ?_
    · simp (decide := true) (maxSteps := 4000000) only [go_sem, Nat.reduceAdd, Nat.reduceSub, Nat.reduceMul, Nat.reduceDiv, Nat.reduceMod, Nat.reduceLT, Nat.reduceLeDiff, Nat.reduceEqDiff, Nat.reduceBEq, Nat.reduceBNe, Nat.reduceGT, Int.reduceAdd, Int.reduceSub, Int.reduceMul, Int.reduceNeg, Int.reduceLT, Int.reduceLE, Int.reduceEq, Int.reduceNe, Int.reduceBEq, Int.reduceBNe, Int.reduceToNat, Int.reduceGT, Int.reduceGE, ↓reduceIte, decide_true, decide_false, eq_self, Nat.mul_one, Nat.zero_mul, Nat.one_mul, Int.le_refl, Nat.le_refl, Int.cast_ofNat_Int]
    · by_cases hlt : (i : Int) < st.length
      · have hi1 : IntKind.i64.wrap (i + 1) = ((i + 1 : Nat) : Int) := by rw [wrap_in (by omega) (by omega)]; omega
        simp (decide := true) (maxSteps := 4000000) only [go_sem, Nat.reduceAdd, Nat.reduceSub, Nat.reduceMul, Nat.reduceDiv, Nat.reduceMod, Nat.reduceLT, Nat.reduceLeDiff, Nat.reduceEqDiff, Nat.reduceBEq, Nat.reduceBNe, Nat.reduceGT, Int.reduceAdd, Int.reduceSub, Int.reduceMul, Int.reduceNeg, Int.reduceLT, Int.reduceLE, Int.reduceEq, Int.reduceNe, Int.reduceBEq, Int.reduceBNe, Int.reduceToNat, Int.reduceGT, Int.reduceGE, ↓reduceIte, decide_true, decide_false, eq_self, Nat.mul_one, Nat.zero_mul, Nat.one_mul, Int.le_refl, Nat.le_refl, Int.cast_ofNat_Int, hlt]
        refine pwpC_loopU (A := { j : Nat // j ≤ l.length ∧ (l.take j).contains (i : Int) = false }) [0, 1, 2, 3, 4, 5, 8, 9, 39, 40, 43, 44] (fun j => [(45, .t (.int .i64 j.1))]) (fun _ => []) (fun j => l.length - j.1) ⟨0, by omega, rfl⟩ (by decide) (fun _ => by rfl) ?_ fun Q2 hQ2 ⟨j, hj, hnc⟩ I2 hI2 => ?_
        · simp (decide := true) (maxSteps := 4000000) only [go_sem, Nat.reduceAdd, Nat.reduceSub, Nat.reduceMul, Nat.reduceDiv, Nat.reduceMod, Nat.reduceLT, Nat.reduceLeDiff, Nat.reduceEqDiff, Nat.reduceBEq, Nat.reduceBNe, Nat.reduceGT, Int.reduceAdd, Int.reduceSub, Int.reduceMul, Int.reduceNeg, Int.reduceLT, Int.reduceLE, Int.reduceEq, Int.reduceNe, Int.reduceBEq, Int.reduceBNe, Int.reduceToNat, Int.reduceGT, Int.reduceGE, ↓reduceIte, decide_true, decide_false, eq_self, Nat.mul_one, Nat.zero_mul, Nat.one_mul, Int.le_refl, Nat.le_refl, Int.cast_ofNat_Int]
        · by_cases hlt2 : (j : Int) < l.length
          · obtain ⟨o, ho⟩ := get_lt hlt2
            have hd := ints_at ho
            rw [Nat.mul_one] at hd
            have hj1 : IntKind.i64.wrap (j + 1) = ((j + 1 : Nat) : Int) := by rw [wrap_in (by omega) (by omega)]; omega
            by_cases hoi : o = (i : Int)
            · have hoi' : (o == (i : Int)) = true := beq_int_t hoi
              have hcon : l.contains (i : Int) = true := by
                rw [List.contains_iff_mem]; rw [← hoi]; exact List.mem_of_getElem? ho
              have hsf : srchF st p q d l i = none := by unfold srchF; rw [if_pos hcon]
              simp (decide := true) (maxSteps := 4000000) only [go_sem, Nat.reduceAdd, Nat.reduceSub, Nat.reduceMul, Nat.reduceDiv, Nat.reduceMod, Nat.reduceLT, Nat.reduceLeDiff, Nat.reduceEqDiff, Nat.reduceBEq, Nat.reduceBNe, Nat.reduceGT, Int.reduceAdd, Int.reduceSub, Int.reduceMul, Int.reduceNeg, Int.reduceLT, Int.reduceLE, Int.reduceEq, Int.reduceNe, Int.reduceBEq, Int.reduceBNe, Int.reduceToNat, Int.reduceGT, Int.reduceGE, ↓reduceIte, decide_true, decide_false, eq_self, Nat.mul_one, Nat.zero_mul, Nat.one_mul, Int.le_refl, Nat.le_refl, Int.cast_ofNat_Int, hlt2, hd, hoi']
              try (refine hQ2 _ _ ?_)
              try simp (decide := true) (maxSteps := 4000000) only [go_sem, Nat.reduceAdd, Nat.reduceSub, Nat.reduceMul, Nat.reduceDiv, Nat.reduceMod, Nat.reduceLT, Nat.reduceLeDiff, Nat.reduceEqDiff, Nat.reduceBEq, Nat.reduceBNe, Nat.reduceGT, Int.reduceAdd, Int.reduceSub, Int.reduceMul, Int.reduceNeg, Int.reduceLT, Int.reduceLE, Int.reduceEq, Int.reduceNe, Int.reduceBEq, Int.reduceBNe, Int.reduceToNat, Int.reduceGT, Int.reduceGE, ↓reduceIte, decide_true, decide_false, eq_self, Nat.mul_one, Nat.zero_mul, Nat.one_mul, Int.le_refl, Nat.le_refl, Int.cast_ofNat_Int]
              refine hI1 _ ⟨i + 1, by omega, by rw [fsTo_succ, hno]; exact hsf⟩ (by simp only; omega) ?_
              simp (decide := true) (maxSteps := 4000000) only [go_sem, Nat.reduceAdd, Nat.reduceSub, Nat.reduceMul, Nat.reduceDiv, Nat.reduceMod, Nat.reduceLT, Nat.reduceLeDiff, Nat.reduceEqDiff, Nat.reduceBEq, Nat.reduceBNe, Nat.reduceGT, Int.reduceAdd, Int.reduceSub, Int.reduceMul, Int.reduceNeg, Int.reduceLT, Int.reduceLE, Int.reduceEq, Int.reduceNe, Int.reduceBEq, Int.reduceBNe, Int.reduceToNat, Int.reduceGT, Int.reduceGE, ↓reduceIte, decide_true, decide_false, eq_self, Nat.mul_one, Nat.zero_mul, Nat.one_mul, Int.le_refl, Nat.le_refl, Int.cast_ofNat_Int, hi1]
            · have hoi' : (o == (i : Int)) = false := beq_int_f hoi
              have hnc' : (l.take (j + 1)).contains (i : Int) = false := by
                rw [take_snoc ho]
                rw [Bool.eq_false_iff, ne_eq, List.contains_iff_mem] at hnc ⊢
                intro h
                rcases List.mem_append.1 h with h | h
                · exact hnc h
                · simp at h; exact hoi h.symm
              simp (decide := true) (maxSteps := 4000000) only [go_sem, Nat.reduceAdd, Nat.reduceSub, Nat.reduceMul, Nat.reduceDiv, Nat.reduceMod, Nat.reduceLT, Nat.reduceLeDiff, Nat.reduceEqDiff, Nat.reduceBEq, Nat.reduceBNe, Nat.reduceGT, Int.reduceAdd, Int.reduceSub, Int.reduceMul, Int.reduceNeg, Int.reduceLT, Int.reduceLE, Int.reduceEq, Int.reduceNe, Int.reduceBEq, Int.reduceBNe, Int.reduceToNat, Int.reduceGT, Int.reduceGE, ↓reduceIte, decide_true, decide_false, eq_self, Nat.mul_one, Nat.zero_mul, Nat.one_mul, Int.le_refl, Nat.le_refl, Int.cast_ofNat_Int, hlt2, hd, hoi']
              refine hI2 _ ⟨j + 1, by omega, hnc'⟩ (by simp only; omega) ?_
              simp (decide := true) (maxSteps := 4000000) only [go_sem, Nat.reduceAdd, Nat.reduceSub, Nat.reduceMul, Nat.reduceDiv, Nat.reduceMod, Nat.reduceLT, Nat.reduceLeDiff, Nat.reduceEqDiff, Nat.reduceBEq, Nat.reduceBNe, Nat.reduceGT, Int.reduceAdd, Int.reduceSub, Int.reduceMul, Int.reduceNeg, Int.reduceLT, Int.reduceLE, Int.reduceEq, Int.reduceNe, Int.reduceBEq, Int.reduceBNe, Int.reduceToNat, Int.reduceGT, Int.reduceGE, ↓reduceIte, decide_true, decide_false, eq_self, Nat.mul_one, Nat.zero_mul, Nat.one_mul, Int.le_refl, Nat.le_refl, Int.cast_ofNat_Int, hj1]
          · have hje : j = l.length := by omega
            subst hje
            rw [List.take_length] at hnc
            have hsf : srchF st p q d l i = srch st p q d (l ++ [(i : Int)]) := by unfold srchF; rw [if_neg (by rw [hnc]; simp)]
            have hii := inv i (by omega)
            have hun := unI_snoc l i
            have htk : List.take l.length (ints l) = ints l := List.take_of_length_le (by rw [ints_len]; omega)
            have hil := ints_len l
            have hroom : (l.length + 1) * 8 ≤ 140737488355328 := by omega
            simp (decide := true) (maxSteps := 4000000) only [go_sem, Nat.reduceAdd, Nat.reduceSub, Nat.reduceMul, Nat.reduceDiv, Nat.reduceMod, Nat.reduceLT, Nat.reduceLeDiff, Nat.reduceEqDiff, Nat.reduceBEq, Nat.reduceBNe, Nat.reduceGT, Int.reduceAdd, Int.reduceSub, Int.reduceMul, Int.reduceNeg, Int.reduceLT, Int.reduceLE, Int.reduceEq, Int.reduceNe, Int.reduceBEq, Int.reduceBNe, Int.reduceToNat, Int.reduceGT, Int.reduceGE, ↓reduceIte, decide_true, decide_false, eq_self, Nat.mul_one, Nat.zero_mul, Nat.one_mul, Int.le_refl, Nat.le_refl, Int.cast_ofNat_Int, hlt2]
            refine hQ2 _ _ ?_
            cases hsr : srch st p q d (l ++ [(i : Int)]) with
            | none =>
              rw [hsr] at hsf
              simp (decide := true) (maxSteps := 4000000) only [go_sem, Nat.reduceAdd, Nat.reduceSub, Nat.reduceMul, Nat.reduceDiv, Nat.reduceMod, Nat.reduceLT, Nat.reduceLeDiff, Nat.reduceEqDiff, Nat.reduceBEq, Nat.reduceBNe, Nat.reduceGT, Int.reduceAdd, Int.reduceSub, Int.reduceMul, Int.reduceNeg, Int.reduceLT, Int.reduceLE, Int.reduceEq, Int.reduceNe, Int.reduceBEq, Int.reduceBNe, Int.reduceToNat, Int.reduceGT, Int.reduceGE, ↓reduceIte, decide_true, decide_false, eq_self, Nat.mul_one, Nat.zero_mul, Nat.one_mul, Int.le_refl, Nat.le_refl, Int.cast_ofNat_Int, htk, hil, hroom, allO_t1, gChoose, hun, List.length_append, chH, noTn, hsr, resT, hmE, h2E, hii, Option.map_none, Option.getD_none]
              refine hI1 _ ⟨i + 1, by omega, by rw [fsTo_succ, hno]; exact hsf⟩ (by simp only; omega) ?_
              simp (decide := true) (maxSteps := 4000000) only [go_sem, Nat.reduceAdd, Nat.reduceSub, Nat.reduceMul, Nat.reduceDiv, Nat.reduceMod, Nat.reduceLT, Nat.reduceLeDiff, Nat.reduceEqDiff, Nat.reduceBEq, Nat.reduceBNe, Nat.reduceGT, Int.reduceAdd, Int.reduceSub, Int.reduceMul, Int.reduceNeg, Int.reduceLT, Int.reduceLE, Int.reduceEq, Int.reduceNe, Int.reduceBEq, Int.reduceBNe, Int.reduceToNat, Int.reduceGT, Int.reduceGE, ↓reduceIte, decide_true, decide_false, eq_self, Nat.mul_one, Nat.zero_mul, Nat.one_mul, Int.le_refl, Nat.le_refl, Int.cast_ofNat_Int, hi1]
            | some L =>
              rw [hsr] at hsf
              have hall := fsTo_hit hno (show i < st.length by omega) hsf
              simp (decide := true) (maxSteps := 4000000) only [go_sem, Nat.reduceAdd, Nat.reduceSub, Nat.reduceMul, Nat.reduceDiv, Nat.reduceMod, Nat.reduceLT, Nat.reduceLeDiff, Nat.reduceEqDiff, Nat.reduceBEq, Nat.reduceBNe, Nat.reduceGT, Int.reduceAdd, Int.reduceSub, Int.reduceMul, Int.reduceNeg, Int.reduceLT, Int.reduceLE, Int.reduceEq, Int.reduceNe, Int.reduceBEq, Int.reduceBNe, Int.reduceToNat, Int.reduceGT, Int.reduceGE, ↓reduceIte, decide_true, decide_false, eq_self, Nat.mul_one, Nat.zero_mul, Nat.one_mul, Int.le_refl, Nat.le_refl, Int.cast_ofNat_Int, htk, hil, hroom, allO_t1, gChoose, hun, List.length_append, chH, noTn, hsr, resT, hmE, h2E, hii]
              try (refine hQ1 _ _ ?_)
              try simp (decide := true) (maxSteps := 4000000) only [go_sem, Nat.reduceAdd, Nat.reduceSub, Nat.reduceMul, Nat.reduceDiv, Nat.reduceMod, Nat.reduceLT, Nat.reduceLeDiff, Nat.reduceEqDiff, Nat.reduceBEq, Nat.reduceBNe, Nat.reduceGT, Int.reduceAdd, Int.reduceSub, Int.reduceMul, Int.reduceNeg, Int.reduceLT, Int.reduceLE, Int.reduceEq, Int.reduceNe, Int.reduceBEq, Int.reduceBNe, Int.reduceToNat, Int.reduceGT, Int.reduceGE, ↓reduceIte, decide_true, decide_false, eq_self, Nat.mul_one, Nat.zero_mul, Nat.one_mul, Int.le_refl, Nat.le_refl, Int.cast_ofNat_Int]
              rw [hall]
              first | exact ⟨_, rfl, rfl⟩ | exact ⟨_, rfl, rfl, rfl, rfl, rfl, rfl⟩
      · have hie : i = st.length := by omega
        subst hie
        simp (decide := true) (maxSteps := 4000000) only [go_sem, Nat.reduceAdd, Nat.reduceSub, Nat.reduceMul, Nat.reduceDiv, Nat.reduceMod, Nat.reduceLT, Nat.reduceLeDiff, Nat.reduceEqDiff, Nat.reduceBEq, Nat.reduceBNe, Nat.reduceGT, Int.reduceAdd, Int.reduceSub, Int.reduceMul, Int.reduceNeg, Int.reduceLT, Int.reduceLE, Int.reduceEq, Int.reduceNe, Int.reduceBEq, Int.reduceBNe, Int.reduceToNat, Int.reduceGT, Int.reduceGE, ↓reduceIte, decide_true, decide_false, eq_self, Nat.mul_one, Nat.zero_mul, Nat.one_mul, Int.le_refl, Nat.le_refl, Int.cast_ofNat_Int, hlt]
        refine hQ1 _ _ ?_
        simp (decide := true) (maxSteps := 4000000) only [go_sem, Nat.reduceAdd, Nat.reduceSub, Nat.reduceMul, Nat.reduceDiv, Nat.reduceMod, Nat.reduceLT, Nat.reduceLeDiff, Nat.reduceEqDiff, Nat.reduceBEq, Nat.reduceBNe, Nat.reduceGT, Int.reduceAdd, Int.reduceSub, Int.reduceMul, Int.reduceNeg, Int.reduceLT, Int.reduceLE, Int.reduceEq, Int.reduceNe, Int.reduceBEq, Int.reduceBNe, Int.reduceToNat, Int.reduceGT, Int.reduceGE, ↓reduceIte, decide_true, decide_false, eq_self, Nat.mul_one, Nat.zero_mul, Nat.one_mul, Int.le_refl, Nat.le_refl, Int.cast_ofNat_Int]
        rw [hno]
        first | exact ⟨_, rfl, rfl⟩ | exact ⟨_, rfl, rfl, rfl, rfl, rfl, rfl⟩
theorem choose_all {st : List Int} (full : Bool) {p q : Int} {f : TV → Option TV} (hs10 : st.length ≤ 10) (hf : ∀ i : Nat, i < st.length → f (.int .i64 i) = some (.int .i64 (nthI st i)))
    (hst : ∀ i : Int, 0 ≤ i → i < st.length → 0 ≤ nthI st i ∧ nthI st i ≤ 200) (hp : 0 ≤ p ∧ p ≤ 100000) (hq : 0 ≤ q ∧ q ≤ 100000) : ∀ d, ChooseC st full p q f d
  | 0 => choose_zero full hf hst hp hq
  | d + 1 => choose_succ full hs10 (choose_all full hs10 hf hst hp hq d)
open Classical in
/-- Both calls: from the very start. -/
noncomputable def gChoose0 (st : List Int) : List PV → List PO → Option (PV × List PO)
  | [.t .nilSl, .t (.int .i64 m), .ptr 0 0, .ptr 1 0, .ptr 2 0, .ptr 3 0], [.box [.fnc F [4, 5, 6]], .box [.t (.int .i64 a), .t (.int .i64 b), .t (.int .i64 c), .t (.int .i64 d)], .box [.t (.sl cs n full)], .box [.fnc G [0, 1, 2, 3]], .box [.t (.int .i64 q)], .box [.t (.int .i64 p)], .box [.mapr 7], .mp tt f] =>
    if (F = 110 ∧ G = 111 ∧ cs = ints st ∧ n = st.length ∧ tt = 202) ∧ (a = -1 ∧ b = -1 ∧ c = -1 ∧ d = -1) ∧ (∀ i : Nat, i < st.length → f (.int .i64 i) = some (.int .i64 (nthI st i))) ∧ ((0 ≤ p ∧ p ≤ 100000) ∧ 0 ≤ q ∧ q ≤ 100000) ∧ (m = 2 ∨ m = 4) then
      some (.t (.bool (srch st p q m.toNat []).isSome), chH st full p q f (resT (srch st p q m.toNat []))) else none
  | _, _ => none
theorem gChoose0_ok {st : List Int} (hs10 : st.length ≤ 10) (hst : ∀ i : Int, 0 ≤ i → i < st.length → 0 ≤ nthI st i ∧ nthI st i ≤ 200) : ∀ xs hl r hl', gChoose0 st xs hl = some (r, hl') → HCalls Tryd.prog 111 xs (getL hl) r (getL hl') := by
  intro xs hl r hl' hg
  unfold gChoose0 at hg
  split at hg
  · split at hg
    · rename_i hc
      simp only [Option.some.injEq, Prod.mk.injEq] at hg
      obtain ⟨rfl, rfl⟩ := hg
      obtain ⟨⟨rfl, rfl, rfl, rfl, rfl⟩, ⟨rfl, rfl, rfl, rfl⟩, h1, h2, h3⟩ := hc
      rcases h3 with rfl | rfl
      · exact choose_all _ hs10 h1 hst h2.1 h2.2 2 [] .nilSl 2 (.inl ⟨rfl, rfl⟩) rfl (.inl rfl) rfl
      · exact choose_all _ hs10 h1 hst h2.1 h2.2 4 [] .nilSl 4 (.inl ⟨rfl, rfl⟩) rfl (.inr rfl) rfl
    · cases hg
  · cases hg
theorem nthI_ofE {l : List Int} {c : Int} (h1 : 0 ≤ c) (h2 : c < l.length) : l[c.toNat]? = some (nthI l c) := by
  obtain ⟨x, hx⟩ := get_lt (l := l) (k := c.toNat) (by omega)
  have hn : nthI l c = x := by have := nthI_at hx; rwa [Int.toNat_of_nonneg h1] at this
  rw [hn]; exact hx
theorem iTrain_c {st : List Int} (full : Bool) (hok : stockOk1 st = true) {p q : Int} (hp : 0 ≤ p ∧ p ≤ 100000) (hq : 0 ≤ q ∧ q ≤ 100000) : PCalls Tryd.prog 62 [.sl (ints st) st.length full, .int .i64 p, .int .i64 q] ((trainP st p q).getD noTn).tv := by
  have hok' := stockOk1_iff.1 hok
  have hst : ∀ i : Int, 0 ≤ i → i < st.length → 0 ≤ nthI st i ∧ nthI st i ≤ 200 := fun i h1 h2 => by
    have := hok'.2 _ (List.mem_of_getElem? (nthI_ofE h1 h2)); omega
  refine pcalls_by Tryd.mixes (Spec.oneH_ok (gChoose0_ok (by omega) hst) noSpec_ok) (fn := Tryd.f62) Tryd.func62 rfl (by kernel_rfl) (by show 3 ≤ _; decide) ?_
  simp (decide := true) (maxSteps := 4000000) only [go_sem, Nat.reduceAdd, Nat.reduceSub, Nat.reduceMul, Nat.reduceDiv, Nat.reduceMod, Nat.reduceLT, Nat.reduceLeDiff, Nat.reduceEqDiff, Nat.reduceBEq, Nat.reduceBNe, Nat.reduceGT, Int.reduceAdd, Int.reduceSub, Int.reduceMul, Int.reduceNeg, Int.reduceLT, Int.reduceLE, Int.reduceEq, Int.reduceNe, Int.reduceBEq, Int.reduceBNe, Int.reduceToNat, Int.reduceGT, Int.reduceGE, ↓reduceIte, decide_true, decide_false, eq_self, Nat.mul_one, Nat.zero_mul, Nat.one_mul, Int.le_refl, Nat.le_refl, Int.cast_ofNat_Int, Tryd.f62]
  refine pwpC_loopU (A := { k : Nat // k ≤ st.length }) [3, 4, 5, 6, 7, 14, 15] (fun k => [(16, .t (.int .i64 k.1))]) (fun k => [(4, .mp 202 (tMap st k.1))]) (fun k => st.length - k.1) ⟨0, by omega⟩ (by decide) (fun _ => by rfl) ?_ fun Q1 hQ1 ⟨k, hk⟩ I1 hI1 => ?_
  · simp (decide := true) (maxSteps := 4000000) only [go_sem, Nat.reduceAdd, Nat.reduceSub, Nat.reduceMul, Nat.reduceDiv, Nat.reduceMod, Nat.reduceLT, Nat.reduceLeDiff, Nat.reduceEqDiff, Nat.reduceBEq, Nat.reduceBNe, Nat.reduceGT, Int.reduceAdd, Int.reduceSub, Int.reduceMul, Int.reduceNeg, Int.reduceLT, Int.reduceLE, Int.reduceEq, Int.reduceNe, Int.reduceBEq, Int.reduceBNe, Int.reduceToNat, Int.reduceGT, Int.reduceGE, ↓reduceIte, decide_true, decide_false, eq_self, Nat.mul_one, Nat.zero_mul, Nat.one_mul, Int.le_refl, Nat.le_refl, Int.cast_ofNat_Int, tMap, List.range_zero, List.foldl_nil]
  · by_cases hlt : (k : Int) < st.length
    · obtain ⟨x, hx⟩ := get_lt hlt
      have hd := ints_at hx
      rw [Nat.mul_one] at hd
      have hnx := nthI_at hx
      have hc1 : IntKind.i64.wrap (k + 1) = ((k + 1 : Nat) : Int) := by rw [wrap_in (by omega) (by omega)]; omega
      simp (decide := true) (maxSteps := 4000000) only [go_sem, Nat.reduceAdd, Nat.reduceSub, Nat.reduceMul, Nat.reduceDiv, Nat.reduceMod, Nat.reduceLT, Nat.reduceLeDiff, Nat.reduceEqDiff, Nat.reduceBEq, Nat.reduceBNe, Nat.reduceGT, Int.reduceAdd, Int.reduceSub, Int.reduceMul, Int.reduceNeg, Int.reduceLT, Int.reduceLE, Int.reduceEq, Int.reduceNe, Int.reduceBEq, Int.reduceBNe, Int.reduceToNat, Int.reduceGT, Int.reduceGE, ↓reduceIte, decide_true, decide_false, eq_self, Nat.mul_one, Nat.zero_mul, Nat.one_mul, Int.le_refl, Nat.le_refl, Int.cast_ofNat_Int, hlt, hd]
      refine hI1 _ ⟨k + 1, by omega⟩ (by simp only; omega) ?_
      simp (decide := true) (maxSteps := 4000000) only [go_sem, Nat.reduceAdd, Nat.reduceSub, Nat.reduceMul, Nat.reduceDiv, Nat.reduceMod, Nat.reduceLT, Nat.reduceLeDiff, Nat.reduceEqDiff, Nat.reduceBEq, Nat.reduceBNe, Nat.reduceGT, Int.reduceAdd, Int.reduceSub, Int.reduceMul, Int.reduceNeg, Int.reduceLT, Int.reduceLE, Int.reduceEq, Int.reduceNe, Int.reduceBEq, Int.reduceBNe, Int.reduceToNat, Int.reduceGT, Int.reduceGE, ↓reduceIte, decide_true, decide_false, eq_self, Nat.mul_one, Nat.zero_mul, Nat.one_mul, Int.le_refl, Nat.le_refl, Int.cast_ofNat_Int, hc1, tMap_succ, hnx]
    · have hke : k = st.length := by omega
      subst hke
      have hM : (∀ i : Nat, i < st.length → tMap st st.length (.int .i64 i) = some (.int .i64 (nthI st i))) = True := eq_true fun i hi => tMap_at st hi
      have e2 : Int.toNat 2 = 2 := rfl
      have e4 : Int.toNat 4 = 4 := rfl
      have htr : trainP st p q = match srch st p q 2 [] with | some l => some (tnOf l) | none => (srch st p q 4 []).map tnOf := rfl
      simp (decide := true) (maxSteps := 4000000) only [go_sem, Nat.reduceAdd, Nat.reduceSub, Nat.reduceMul, Nat.reduceDiv, Nat.reduceMod, Nat.reduceLT, Nat.reduceLeDiff, Nat.reduceEqDiff, Nat.reduceBEq, Nat.reduceBNe, Nat.reduceGT, Int.reduceAdd, Int.reduceSub, Int.reduceMul, Int.reduceNeg, Int.reduceLT, Int.reduceLE, Int.reduceEq, Int.reduceNe, Int.reduceBEq, Int.reduceBNe, Int.reduceToNat, Int.reduceGT, Int.reduceGE, ↓reduceIte, decide_true, decide_false, eq_self, Nat.mul_one, Nat.zero_mul, Nat.one_mul, Int.le_refl, Nat.le_refl, Int.cast_ofNat_Int, hlt]
      refine hQ1 _ _ ?_
      cases h2 : srch st p q 2 [] with
      | some L =>
        rw [h2] at htr
        simp (decide := true) (maxSteps := 4000000) only [go_sem, Nat.reduceAdd, Nat.reduceSub, Nat.reduceMul, Nat.reduceDiv, Nat.reduceMod, Nat.reduceLT, Nat.reduceLeDiff, Nat.reduceEqDiff, Nat.reduceBEq, Nat.reduceBNe, Nat.reduceGT, Int.reduceAdd, Int.reduceSub, Int.reduceMul, Int.reduceNeg, Int.reduceLT, Int.reduceLE, Int.reduceEq, Int.reduceNe, Int.reduceBEq, Int.reduceBNe, Int.reduceToNat, Int.reduceGT, Int.reduceGE, ↓reduceIte, decide_true, decide_false, eq_self, Nat.mul_one, Nat.zero_mul, Nat.one_mul, Int.le_refl, Nat.le_refl, Int.cast_ofNat_Int, gChoose0, hM, hp, hq, e2, h2, chH, resT, htr, Tn.tv, Tn.cs]
      | none =>
        rw [h2] at htr
        cases h4 : srch st p q 4 [] with
        | some L =>
          rw [h4] at htr
          simp (decide := true) (maxSteps := 4000000) only [go_sem, Nat.reduceAdd, Nat.reduceSub, Nat.reduceMul, Nat.reduceDiv, Nat.reduceMod, Nat.reduceLT, Nat.reduceLeDiff, Nat.reduceEqDiff, Nat.reduceBEq, Nat.reduceBNe, Nat.reduceGT, Int.reduceAdd, Int.reduceSub, Int.reduceMul, Int.reduceNeg, Int.reduceLT, Int.reduceLE, Int.reduceEq, Int.reduceNe, Int.reduceBEq, Int.reduceBNe, Int.reduceToNat, Int.reduceGT, Int.reduceGE, ↓reduceIte, decide_true, decide_false, eq_self, Nat.mul_one, Nat.zero_mul, Nat.one_mul, Int.le_refl, Nat.le_refl, Int.cast_ofNat_Int, gChoose0, hM, hp, hq, e2, e4, h2, h4, chH, resT, noTn, htr, Tn.tv, Tn.cs]
        | none =>
          rw [h4] at htr
          simp (decide := true) (maxSteps := 4000000) only [go_sem, Nat.reduceAdd, Nat.reduceSub, Nat.reduceMul, Nat.reduceDiv, Nat.reduceMod, Nat.reduceLT, Nat.reduceLeDiff, Nat.reduceEqDiff, Nat.reduceBEq, Nat.reduceBNe, Nat.reduceGT, Int.reduceAdd, Int.reduceSub, Int.reduceMul, Int.reduceNeg, Int.reduceLT, Int.reduceLE, Int.reduceEq, Int.reduceNe, Int.reduceBEq, Int.reduceBNe, Int.reduceToNat, Int.reduceGT, Int.reduceGE, ↓reduceIte, decide_true, decide_false, eq_self, Nat.mul_one, Nat.zero_mul, Nat.one_mul, Int.le_refl, Nat.le_refl, Int.cast_ofNat_Int, gChoose0, hM, hp, hq, e2, e4, h2, h4, chH, resT, noTn, htr, Tn.tv, Tn.cs]
end Go.Proofs.YtlonlnfenbadbaaDoor.Ix

/- Part Io. -/
namespace Go.Oc.Ix
end Go.Oc.Ix
namespace Go.Proofs.YtlonlnfenbadbaaDoor.Ix
end Go.Proofs.YtlonlnfenbadbaaDoor.Ix
namespace Go.Proofs.YtlonlnfenbadbaaDoor.Ix
open Go.RowKit Go.Pm Go.Oc Go.Oc.Ix
set_option maxRecDepth 100000
set_option linter.unusedVariables false

/-- The package-level variable holds what the rows say. -/
theorem ix_glob {w : World} (h : laidMetH Tryd.prog [("octant/index.noTrain", Rows.laid_octant_index_noTrain)] w) : GlobOk (allF w) := by
  rw [MakeChecks.laidMetH_plain _ _ _ (by kernel_rfl)] at h
  have hr := glob_ints (P := Tryd.prog) (name := "octant/index.noTrain") (ns := [-1, -1, -1, -1]) (w := w) h (g := 0) (t := 27) (e := 3) (by kernel_rfl) (by kernel_rfl) Tryd.underlying27 (by kernel_rfl) (by kernel_rfl) (by kernel_rfl) (by kernel_rfl) (by kernel_rfl)
  intro g cs hc
  match g, hc with
  | 0, hc =>
    have e : cs = [.int .i64 (-1), .int .i64 (-1), .int .i64 (-1), .int .i64 (-1)] := (Option.some.inj (show some _ = some cs from hc)).symm
    rw [e]; exact hr
  | g + 1, hc => cases hc
/-- The door's own heap meets it. -/
theorem ix_met (os : Os) (args : Array Value) : laidMetH Tryd.prog [("octant/index.noTrain", Rows.laid_octant_index_noTrain)] ((World.doorLaid Tryd.prog 14 os).forCall (fun _ _ => 0) ⟨#[], args, []⟩).memory :=
  laidMetH_of_parts3 (fuel := 8) (laidMet_of_run' 8 (by kernel_rfl) (by kernel_rfl)) (by kernel_rfl) (by kernel_rfl)
theorem ix_shaped (os : Os) (args : Array Value) : ((World.doorLaid Tryd.prog 14 os).forCall (fun _ _ => 0) ⟨#[], args, []⟩).Shaped Tryd.prog := World.shaped_of_RefB (by kernel_rfl) (by kernel_rfl)
end Go.Proofs.YtlonlnfenbadbaaDoor.Ix

/- Part Iq. -/
namespace Go.Oc.Ix
end Go.Oc.Ix
namespace Go.Proofs.YtlonlnfenbadbaaDoor.Ix
end Go.Proofs.YtlonlnfenbadbaaDoor.Ix
namespace Go.Oc.Ix
open Go Go.Pm
set_option maxRecDepth 100000
set_option linter.unusedVariables false
/-- What a train is. -/
theorem train_some {st : List Int} {p q : Int} {t : Tn} (h : trainP st p q = some t) :
    (∃ a b : Nat, a < st.length ∧ b < st.length ∧ a ≠ b ∧ nthI st a * q = nthI st b * p ∧ t = ⟨a, b, -1, -1⟩) ∨
    ((∀ a b : Nat, a < st.length → b < st.length → a ≠ b → nthI st a * q ≠ nthI st b * p) ∧ ∃ a b c d : Nat, (a < st.length ∧ b < st.length ∧ c < st.length ∧ d < st.length) ∧ (a ≠ b ∧ a ≠ c ∧ a ≠ d ∧ b ≠ c ∧ b ≠ d ∧ c ≠ d) ∧ nthI st a * nthI st c * q = nthI st b * nthI st d * p ∧ t = ⟨a, b, c, d⟩) := by
  rw [← train_ref] at h
  unfold trainR at h
  cases h2 : fsTo (fun a => fsTo (r2 st p q a) st.length) st.length with
  | some t' =>
    rw [h2] at h; cases h
    obtain ⟨a, ha, _, h2⟩ := fsTo_some h2
    obtain ⟨b, hb, _, h2⟩ := fsTo_some h2
    unfold r2 at h2
    split at h2
    · rename_i hc; cases h2; exact .inl ⟨a, b, ha, hb, hc.1, hc.2, rfl⟩
    · cases h2
  | none =>
    rw [h2] at h
    right
    constructor
    · intro a b ha hb hab he
      have := fsTo_none.1 (fsTo_none.1 h2 a ha) b hb
      unfold r2 at this
      rw [if_pos ⟨hab, he⟩] at this; cases this
    · obtain ⟨a, ha, _, h⟩ := fsTo_some h
      obtain ⟨b, hb, _, h⟩ := fsTo_some h
      obtain ⟨c, hc, _, h⟩ := fsTo_some h
      obtain ⟨d, hd, _, h⟩ := fsTo_some h
      unfold r4 at h
      split at h
      · rename_i hx; cases h; exact ⟨a, b, c, d, ⟨ha, hb, hc, hd⟩, hx.1, hx.2, rfl⟩
      · cases h
theorem train_none {st : List Int} {p q : Int} (h : trainP st p q = none) :
    (∀ a b : Nat, a < st.length → b < st.length → a ≠ b → nthI st a * q ≠ nthI st b * p) ∧ ∀ a b c d : Nat, a < st.length → b < st.length → c < st.length → d < st.length → (a ≠ b ∧ a ≠ c ∧ a ≠ d ∧ b ≠ c ∧ b ≠ d ∧ c ≠ d) → nthI st a * nthI st c * q ≠ nthI st b * nthI st d * p := by
  rw [← train_ref] at h
  unfold trainR at h
  cases h2 : fsTo (fun a => fsTo (r2 st p q a) st.length) st.length with
  | some t' => rw [h2] at h; cases h
  | none =>
    rw [h2] at h
    constructor
    · intro a b ha hb hab he
      have := fsTo_none.1 (fsTo_none.1 h2 a ha) b hb
      unfold r2 at this
      rw [if_pos ⟨hab, he⟩] at this; cases this
    · intro a b c d ha hb hc hd hx he
      have := fsTo_none.1 (fsTo_none.1 (fsTo_none.1 (fsTo_none.1 h a ha) b hb) c hc) d hd
      unfold r4 at this
      rw [if_pos ⟨hx, he⟩] at this; cases this
theorem train_times {st : List Int} {p q k : Int} (hk : 0 < k) : trainP st (p * k) (q * k) = trainP st p q := by
  rw [← train_ref, ← train_ref]
  have e : ∀ x y : Int, (x * (q * k) = y * (p * k)) ↔ (x * q = y * p) := fun x y => by
    rw [← Int.mul_assoc, ← Int.mul_assoc]
    exact ⟨fun h => Int.eq_of_mul_eq_mul_right (by omega) h, fun h => by rw [h]⟩
  have e2 : r2 st (p * k) (q * k) = r2 st p q := by
    funext a b; unfold r2; simp only [e]
  have e4 : r4 st (p * k) (q * k) = r4 st p q := by
    funext a b c d; unfold r4; simp only [e]
  unfold trainR
  rw [e2, e4]
/-- What a train multiplies and divides by; false: it is none of a stock. -/
def ratioP (st : List Int) (t : Tn) : Int × Int × Bool :=
  if (!inB t.a 0 ((st.length : Int) - 1) || !inB t.b 0 ((st.length : Int) - 1) || t.a == t.b) = true then (0, 0, false)
  else if (t.c == -1 && t.d == -1) = true then (nthI st t.a, nthI st t.b, true)
  else if (!inB t.c 0 ((st.length : Int) - 1) || !inB t.d 0 ((st.length : Int) - 1) || t.c == t.d || t.a == t.c || t.a == t.d || t.b == t.c || t.b == t.d) = true then (0, 0, false)
  else (nthI st t.a * nthI st t.c, nthI st t.b * nthI st t.d, true)
theorem inB_nat {k n : Nat} (h : k < n) : inB k 0 ((n : Int) - 1) = true := inB_iff.2 ⟨by omega, by omega⟩
theorem ratio_two {st : List Int} {a b : Nat} (ha : a < st.length) (hb : b < st.length) (hab : a ≠ b) : ratioP st ⟨a, b, -1, -1⟩ = (nthI st a, nthI st b, true) := by
  unfold ratioP
  have h : ((a : Int) == b) = false := beq_int_f (by omega)
  simp [inB_nat ha, inB_nat hb, h]
theorem ratio_four {st : List Int} {a b c d : Nat} (ha : a < st.length) (hb : b < st.length) (hc : c < st.length) (hd : d < st.length) (hx : a ≠ b ∧ a ≠ c ∧ a ≠ d ∧ b ≠ c ∧ b ≠ d ∧ c ≠ d) :
    ratioP st ⟨a, b, c, d⟩ = (nthI st a * nthI st c, nthI st b * nthI st d, true) := by
  unfold ratioP
  have h1 : ((a : Int) == b) = false := beq_int_f (by omega)
  have h2 : ((c : Int) == -1) = false := beq_int_f (by omega)
  have h3 : ((c : Int) == d) = false := beq_int_f (by omega)
  have h4 : ((a : Int) == c) = false := beq_int_f (by omega)
  have h5 : ((a : Int) == d) = false := beq_int_f (by omega)
  have h6 : ((b : Int) == c) = false := beq_int_f (by omega)
  have h7 : ((b : Int) == d) = false := beq_int_f (by omega)
  simp [inB_nat ha, inB_nat hb, inB_nat hc, inB_nat hd, h1, h2, h3, h4, h5, h6, h7]
/-- A train gives its ratio. -/
theorem train_ratio {st : List Int} {p q : Int} {t : Tn} (h : trainP st p q = some t) : ∃ P Q, ratioP st t = (P, Q, true) ∧ P * q = Q * p := by
  rcases train_some h with ⟨a, b, ha, hb, hab, he, rfl⟩ | ⟨_, a, b, c, d, ⟨ha, hb, hc, hd⟩, hx, he, rfl⟩
  · exact ⟨_, _, ratio_two ha hb hab, he⟩
  · exact ⟨_, _, ratio_four ha hb hc hd hx, he⟩
theorem train_swap {st : List Int} {p q : Int} {t : Tn} (h : trainP st p q = some t) : ∃ u, trainP st q p = some u ∧ (t.c < 0 ↔ u.c < 0) := by
  rcases train_some h with ⟨a, b, ha, hb, hab, he, rfl⟩ | ⟨hno, a, b, c, d, ⟨ha, hb, hc, hd⟩, hx, he, rfl⟩
  · cases hu : trainP st q p with
    | none => exact absurd he.symm ((train_none hu).1 b a hb ha (Ne.symm hab))
    | some u =>
      refine ⟨u, rfl, ?_⟩
      rcases train_some hu with ⟨_, _, _, _, _, _, rfl⟩ | ⟨hno, _⟩
      · simp
      · exact absurd he.symm (hno b a hb ha (Ne.symm hab))
  · cases hu : trainP st q p with
    | none => exact absurd he.symm ((train_none hu).2 b a d c hb ha hd hc ⟨by omega, by omega, by omega, by omega, by omega, by omega⟩)
    | some u =>
      refine ⟨u, rfl, ?_⟩
      rcases train_some hu with ⟨a', b', h1, h2, h3, h4, rfl⟩ | ⟨_, a', b', c', d', _, _, _, rfl⟩
      · exact absurd h4.symm (hno b' a' h2 h1 (Ne.symm h3))
      · simp only; omega
/-- If wheels have a ratio, there is a train for it. -/
theorem train_own {st : List Int} {t : Tn} {P Q : Int} (h : ratioP st t = (P, Q, true)) : ∃ v r s, trainP st P Q = some v ∧ ratioP st v = (r, s, true) ∧ r * Q = s * P ∧ (t.c = -1 → t.d = -1 → v.c < 0) := by
  have fin : ∀ v, trainP st P Q = some v → (t.c = -1 → t.d = -1 → v.c < 0) → ∃ v r s, trainP st P Q = some v ∧ ratioP st v = (r, s, true) ∧ r * Q = s * P ∧ (t.c = -1 → t.d = -1 → v.c < 0) := fun v hv hc => by
    obtain ⟨r, s, h1, h2⟩ := train_ratio hv
    exact ⟨v, r, s, hv, h1, h2, hc⟩
  have un : ∀ {x : Int}, inB x 0 ((st.length : Int) - 1) = true → ∃ k : Nat, k < st.length ∧ x = k := fun hx => by
    have := inB_iff.1 hx
    exact ⟨_, by omega, (Int.toNat_of_nonneg this.1).symm⟩
  obtain ⟨a, b, c, d⟩ := t
  unfold ratioP at h
  split at h
  · cases h
  · rename_i h1
    simp only [Bool.or_eq_true, Bool.not_eq_true', not_or, Bool.not_eq_false, beq_iff_eq] at h1
    obtain ⟨⟨ha, hb⟩, hab⟩ := h1
    obtain ⟨a, ha', rfl⟩ := un ha
    obtain ⟨b, hb', rfl⟩ := un hb
    split at h
    · simp only [Prod.mk.injEq, and_true] at h
      obtain ⟨rfl, rfl⟩ := h
      have he : nthI st a * nthI st b = nthI st b * nthI st a := Int.mul_comm ..
      cases hv : trainP st (nthI st a) (nthI st b) with
      | none => exact absurd he ((train_none hv).1 a b ha' hb' (by omega))
      | some v =>
        refine hv ▸ fin v hv fun _ _ => ?_
        rcases train_some hv with ⟨_, _, _, _, _, _, rfl⟩ | ⟨hno, _⟩
        · simp
        · exact absurd he (hno a b ha' hb' (by omega))
    · rename_i h2
      split at h
      · cases h
      · rename_i h3
        simp only [Bool.or_eq_true, Bool.not_eq_true', not_or, Bool.not_eq_false, beq_iff_eq] at h3
        obtain ⟨⟨⟨⟨⟨⟨hc, hd⟩, hcd⟩, hac⟩, had⟩, hbc⟩, hbd⟩ := h3
        obtain ⟨c, hc', rfl⟩ := un hc
        obtain ⟨d, hd', rfl⟩ := un hd
        simp only [Prod.mk.injEq, and_true] at h
        obtain ⟨rfl, rfl⟩ := h
        have he : nthI st a * nthI st c * (nthI st b * nthI st d) = nthI st b * nthI st d * (nthI st a * nthI st c) := Int.mul_comm ..
        cases hv : trainP st (nthI st a * nthI st c) (nthI st b * nthI st d) with
        | none => exact absurd he ((train_none hv).2 a b c d ha' hb' hc' hd' ⟨by omega, by omega, by omega, by omega, by omega, by omega⟩)
        | some v => exact hv ▸ fin v hv fun h _ => by simp only at h; omega
/-- No hole is nearer. -/
theorem mul_ge {a b n : Int} (h : a ≤ b) (hn : 0 < n) : a * n ≤ b * n := Int.mul_le_mul_of_nonneg_right h (by omega)
theorem near {all n k : Int} (hn : 0 < n) (o : Int) : absI (wrongP all n k) < absI (o * n - k * all) ∨ absI (wrongP all n k) = absI (o * n - k * all) ∧ placeP all n k ≤ o := by
  have h1 := Int.mul_ediv_add_emod (k * all) n
  have h2 := Int.emod_nonneg (k * all) (show n ≠ 0 by omega)
  have h3 := Int.emod_lt_of_pos (k * all) hn
  have hp := place_spec (all := all) (k := k) hn
  generalize wrongP all n k = w at *
  generalize placeP all n k = p at *
  generalize k * all / n = q at *
  generalize k * all % n = r at *
  generalize k * all = a at *
  have e : o * n - a = (o - q) * n - r := by rw [Int.sub_mul, Int.mul_comm q n]; omega
  rw [e]
  generalize hd : o - q = d
  have m1 : d ≤ -1 → d * n ≤ -1 * n := fun h => mul_ge h hn
  have m2 : 1 ≤ d → 1 * n ≤ d * n := fun h => mul_ge h hn
  have m3 : 2 ≤ d → 2 * n ≤ d * n := fun h => mul_ge h hn
  have m0 : d = 0 → d * n = 0 := fun h => by rw [h, Int.zero_mul]
  have m4 : d = 1 → d * n = n := fun h => by rw [h, Int.one_mul]
  unfold absI
  generalize d * n = dn at *
  omega
theorem place_range {all n k : Int} (hn : 0 < n) (ha : 0 < all) (hk : 0 ≤ k) (hkn : k < n) : 0 ≤ placeP all n k ∧ placeP all n k ≤ all := by
  have h1 := Int.mul_ediv_add_emod (k * all) n
  have h2 := Int.emod_nonneg (k * all) (show n ≠ 0 by omega)
  have h4 : 0 ≤ k * all / n := Int.ediv_nonneg (Int.mul_nonneg hk (by omega)) (by omega)
  have h5 : k * all / n < all := by
    rw [Int.ediv_lt_iff_lt_mul hn, Int.mul_comm all n]
    exact Int.mul_lt_mul_of_pos_right hkn ha
  unfold placeP
  split <;> omega
theorem place_mono {all n k : Int} (hn : 0 < n) (ha : 0 < all) : placeP all n k ≤ placeP all n (k + 1) := by
  have h1 := Int.mul_ediv_add_emod (k * all) n
  have h2 := Int.emod_nonneg (k * all) (show n ≠ 0 by omega)
  have h3 := Int.emod_lt_of_pos (k * all) hn
  have g1 := Int.mul_ediv_add_emod ((k + 1) * all) n
  have g2 := Int.emod_nonneg ((k + 1) * all) (show n ≠ 0 by omega)
  have g3 := Int.emod_lt_of_pos ((k + 1) * all) hn
  have e : (k + 1) * all = k * all + all := by rw [Int.add_mul, Int.one_mul]
  unfold placeP
  generalize (k + 1) * all = b at *
  generalize k * all = a at *
  generalize a / n = q at *
  generalize b / n = q' at *
  generalize a % n = r at *
  generalize b % n = r' at *
  have hq : n * (q' - q) = all + r - r' := by rw [Int.mul_sub]; omega
  have m1 : q' - q ≤ -1 → (q' - q) * n ≤ -1 * n := fun h => mul_ge h hn
  rw [Int.mul_comm] at hq
  have m0 : q' - q = 0 → (q' - q) * n = 0 := fun h => by rw [h, Int.zero_mul]
  generalize (q' - q) * n = z at *
  split <;> split <;> omega
/-- What is engraved, and the fault. -/
theorem engr_spec {f A : Int} (hA : 0 < A) : f * 129600000 ≤ engrP f A * A ∧ (engrP f A - 1) * A < f * 129600000 := by
  unfold engrP
  generalize f * 129600000 = a
  have h1 := Int.mul_ediv_add_emod (a + A - 1) A
  have h2 := Int.emod_nonneg (a + A - 1) (show A ≠ 0 by omega)
  have h3 := Int.emod_lt_of_pos (a + A - 1) hA
  rw [Int.sub_mul, Int.mul_comm _ A]
  omega
theorem engr_le {f A B : Int} (hA : 0 < A) (h : f * 129600000 ≤ B * A) : engrP f A ≤ B := by
  have h1 := (engr_spec (f := f) hA).2
  have h2 : (engrP f A - 1) * A < B * A := by omega
  have := Int.lt_of_mul_lt_mul_right h2 (by omega)
  omega
theorem engr_nonneg {f A : Int} (hA : 0 < A) (hf : 0 ≤ f) : 0 ≤ engrP f A := by
  unfold engrP
  exact Int.ediv_nonneg (by omega) (by omega)
theorem engr_most {f n all : Int} (hn : 0 < n) (ha : 0 < all) (hf : f ≤ n) : engrP f (n * all) ≤ 129600000 := by
  refine engr_le (Int.mul_pos hn ha) ?_
  have h1 : n * 1 ≤ n * all := Int.mul_le_mul_of_nonneg_left (by omega) (by omega)
  have h2 : f ≤ n * all := by omega
  rw [Int.mul_comm]
  exact Int.mul_le_mul_of_nonneg_left h2 (by omega)
theorem fault_zero {all n : Int} (hn : 0 < n) : faultP all n = 0 ↔ all % n = 0 := by
  unfold faultP
  constructor
  · intro h
    by_cases h1 : n = 1
    · subst h1; omega
    · have h2 := faultTo_le (all := all) (n := n) (show 1 < n.toNat by omega)
      have hw : wrongP all n ((1 : Nat) : Int) = 0 := by unfold absI at h2; omega
      have h3 := place_spec (all := all) (k := ((1 : Nat) : Int)) hn
      have h4 := Int.emod_lt_of_pos (((1 : Nat) : Int) * all) hn
      have e : ((1 : Nat) : Int) * all = all := by simp
      rw [e] at h3 h4
      omega
  · intro h
    have hz : ∀ k : Nat, wrongP all n k = 0 := fun k => by
      have h3 := place_spec (all := all) (k := (k : Int)) hn
      have : (k : Int) * all % n = 0 := by
        rw [Int.mul_emod, h, Int.mul_zero, Int.zero_emod]
      rw [this] at h3
      omega
    have : ∀ m : Nat, faultTo all n m = 0 := fun m => by
      induction m with
      | zero => rfl
      | succ m ih => rw [faultTo_succ, ih, hz]; rfl
    exact this _
theorem engr_zero {all n : Int} (hn : 0 < n) (ha : 0 < all) : engrP (faultP all n) (n * all) = 0 ↔ all % n = 0 := by
  rw [← fault_zero hn]
  have hA : 0 < n * all := Int.mul_pos hn ha
  have hb : 0 ≤ faultP all n := (faultTo_bound hn _).1
  constructor
  · intro h
    have := (engr_spec (f := faultP all n) hA).1
    rw [h, Int.zero_mul] at this
    omega
  · intro h
    have := (engr_spec (f := faultP all n) hA).2
    have h2 := engr_nonneg (f := faultP all n) hA hb
    rw [h] at this h2 ⊢
    have h3 : (engrP 0 (n * all) - 1) * (n * all) < 0 * (n * all) := by rw [Int.zero_mul]; omega
    have := Int.lt_of_mul_lt_mul_right h3 (by omega)
    omega
/-- Fractions. -/
theorem frac_trans {a b c d e f : Int} (hb : 0 < b) (hd : 0 < d) (hf : 0 < f) (h1 : a * d ≤ c * b) (h2 : c * f ≤ e * d) : a * f ≤ e * b := by
  have g1 : a * d * f ≤ c * b * f := Int.mul_le_mul_of_nonneg_right h1 (by omega)
  have g2 : c * f * b ≤ e * d * b := Int.mul_le_mul_of_nonneg_right h2 (by omega)
  have e1 : c * b * f = c * f * b := by rw [Int.mul_assoc, Int.mul_comm b f, ← Int.mul_assoc]
  have e2 : a * d * f = (a * f) * d := by rw [Int.mul_assoc, Int.mul_comm d f, ← Int.mul_assoc]
  have e3 : e * d * b = (e * b) * d := by rw [Int.mul_assoc, Int.mul_comm d b, ← Int.mul_assoc]
  have g3 : (a * f) * d ≤ (e * b) * d := by omega
  exact Int.le_of_mul_le_mul_right g3 hd
theorem bestK_least {t : Int} {l : List Int} {n : Int} (hp : ∀ i : Nat, i < l.length → 0 < nthI l i) : ∀ {k : Nat}, k < l.length → ∀ {i : Nat}, i ≤ k → (bestK t l n k).2 * nthI l i ≤ faultP (t * nthI l i) n * nthI l (bestK t l n k).1
  | 0, _, i, hi => by
    have : i = 0 := by omega
    subst this
    exact Int.le_refl _
  | k + 1, hk, i, hi => by
    have ih := fun i (hi : i ≤ k) => bestK_least (t := t) (n := n) hp (show k < l.length by omega) hi
    obtain ⟨b1, b2, b3⟩ := bestK_spec t l n k
    obtain ⟨j, hj⟩ := Int.eq_ofNat_of_zero_le b1
    rw [bestK]
    split
    · rename_i hlt
      simp only
      by_cases hik : i = k + 1
      · subst hik; exact Int.le_refl _
      · have h1 := ih i (by omega)
        rw [hj] at hlt h1
        exact frac_trans (hp (k + 1) hk) (hp j (by omega)) (hp i (by omega)) (Int.le_of_lt hlt) h1
    · rename_i hlt
      by_cases hik : i = k + 1
      · subst hik; omega
      · exact ih i (by omega)
theorem engr_mono {f1 f2 h1 h2 N : Int} (hN : 0 < N) (p1 : 0 < h1) (p2 : 0 < h2) (h : f1 * h2 ≤ f2 * h1) : engrP f1 (N * h1) ≤ engrP f2 (N * h2) := by
  have a1 : 0 < N * h1 := Int.mul_pos hN p1
  have a2 : 0 < N * h2 := Int.mul_pos hN p2
  refine engr_le a1 ?_
  have s := (engr_spec (f := f2) a2).1
  generalize engrP f2 (N * h2) = E at *
  have g1 : f1 * h2 * 129600000 ≤ f2 * h1 * 129600000 := Int.mul_le_mul_of_nonneg_right h (by omega)
  have g2 : f2 * 129600000 * h1 ≤ E * (N * h2) * h1 := Int.mul_le_mul_of_nonneg_right s (by omega)
  have e1 : f1 * h2 * 129600000 = (f1 * 129600000) * h2 := by rw [Int.mul_assoc, Int.mul_comm h2, ← Int.mul_assoc]
  have e2 : f2 * h1 * 129600000 = (f2 * 129600000) * h1 := by rw [Int.mul_assoc, Int.mul_comm h1, ← Int.mul_assoc]
  have e3 : E * (N * h2) * h1 = (E * (N * h1)) * h2 := by
    rw [← Int.mul_assoc, ← Int.mul_assoc, Int.mul_assoc (E * N), Int.mul_comm h2 h1, ← Int.mul_assoc]
  have g3 : (f1 * 129600000) * h2 ≤ (E * (N * h1)) * h2 := by omega
  exact Int.le_of_mul_le_mul_right g3 p2
/-- A circle more. -/
def insC (more : Int) : Int → List Int → List Int
  | a, [] => if a < more then [more] else []
  | a, x :: l => (if x > more ∧ a < more then [more] else []) ++ x :: insC more x l
theorem insC_ok {more : Int} (hm : more ≤ 200) : ∀ {a : Int} {l : List Int}, circOk a l = true → circOk a (insC more a l) = true
  | a, [], _ => by
    unfold insC
    split
    · simp only [circOk, Bool.and_true, inB_iff]; omega
    · rfl
  | a, x :: l, h => by
    simp only [circOk, Bool.and_eq_true, inB_iff] at h
    have ih := insC_ok hm h.2
    unfold insC
    split
    · simp only [List.cons_append, List.nil_append, circOk, Bool.and_eq_true, inB_iff]
      exact ⟨by omega, by omega, ih⟩
    · simp only [List.nil_append, circOk, Bool.and_eq_true, inB_iff]
      exact ⟨h.1, ih⟩
theorem insC_same {more : Int} : ∀ {a : Int} {l : List Int}, more ≤ a → circOk a l = true → insC more a l = l
  | a, [], h, _ => by unfold insC; rw [if_neg (by omega)]
  | a, x :: l, h, hc => by
    simp only [circOk, Bool.and_eq_true, inB_iff] at hc
    unfold insC
    rw [if_neg (by omega), List.nil_append, insC_same (by omega) hc.2]
theorem insC_len {more : Int} : ∀ {a : Int} {l : List Int}, circOk a l = true → (insC more a l).length ≤ l.length + 1
  | a, [], _ => by unfold insC; split <;> simp
  | a, x :: l, h => by
    simp only [circOk, Bool.and_eq_true, inB_iff] at h
    unfold insC
    split
    · rename_i hx
      rw [insC_same (by omega) h.2]; simp
    · have := insC_len (more := more) h.2
      simp; omega
theorem insC_sub {more : Int} : ∀ {a : Int} {l : List Int}, l.Sublist (insC more a l)
  | a, [] => List.nil_sublist _
  | a, x :: l => by
    unfold insC
    exact List.Sublist.trans (List.Sublist.cons_cons x insC_sub) (List.sublist_append_right _ _)
theorem plans_count (t : Int) (l : List Int) (n : Int) (k : Nat) (hk : k ≤ l.length) : (plansTo t l n k).length = (l.take k).countP fun h => decide (t * h % n = 0) := by
  induction k with
  | zero => rfl
  | succ k ih =>
    have hx : l[k]? = some l[k] := List.getElem?_eq_getElem (by omega)
    rw [plansTo_succ, take_snoc hx, List.length_append, List.countP_append, ih (by omega), nthI_at hx]
    unfold planAt
    by_cases h : t * l[k] % n = 0 <;> simp [h]
theorem more_plans {t n : Int} {l x : List Int} (h : l.Sublist x) : (plansP t l n).length ≤ (plansP t x n).length := by
  unfold plansP
  rw [plans_count _ _ _ _ (Nat.le_refl _), plans_count _ _ _ _ (Nat.le_refl _), List.take_length, List.take_length]
  exact h.countP_le
theorem more_comp {t n : Int} {l x : List Int} (h : l.Sublist x) (hl : circOk 1 l = true) (hx : circOk 1 x = true) {c : Pr} (hc : compP t l n = some c) : ∃ d, compP t x n = some d ∧ holP d ≤ holP c := by
  obtain ⟨h1, _⟩ := compP_some hc
  obtain ⟨i, k, j, g1, g2, g3, g4⟩ := cands_mem.1 h1
  have e1 : l[i]? = some l[i] := List.getElem?_eq_getElem (by omega)
  have e2 : l[k]? = some l[k] := List.getElem?_eq_getElem g2
  have hlt := circ_lt hl g1 e1 e2
  obtain ⟨i', hi'⟩ := List.mem_iff_getElem?.1 (h.mem (List.mem_of_getElem? e1))
  obtain ⟨k', hk'⟩ := List.mem_iff_getElem?.1 (h.mem (List.mem_of_getElem? e2))
  have hik : i' < k' := by
    rcases Nat.lt_trichotomy i' k' with h' | h' | h'
    · exact h'
    · subst h'; rw [hi'] at hk'; have := Option.some.inj hk'; omega
    · have := circ_lt hx h' hk' hi'; omega
  rw [nthI_at e1, nthI_at e2] at g4
  have g5 : prAt t (nthI x i') (nthI x k') n i' k' ((j : Int) - 2000) = some ⟨i', k', c.x, c.y⟩ := by
    rw [nthI_at hi', nthI_at hk']
    unfold prAt at g4 ⊢
    split at g4
    · rename_i hh; rw [if_pos hh]; cases g4; rfl
    · cases g4
  have hmem : (⟨i', k', c.x, c.y⟩ : Pr) ∈ cands t x n x.length := cands_mem.2 ⟨i', k', j, hik, (List.getElem?_eq_some_iff.1 hk').1, g3, g5⟩
  cases hd : compP t x n with
  | none => rw [compP_none] at hd; rw [hd] at hmem; cases hmem
  | some d =>
    refine ⟨d, rfl, ?_⟩
    have := (compP_some hd).2 _ hmem
    have e : holP (⟨i', k', c.x, c.y⟩ : Pr) = holP c := rfl
    omega
theorem more_best {t n : Int} {l x : List Int} (h : l.Sublist x) (hl : headOk t l = true) (hx : headOk t x = true) (hn : 0 < n) :
    engrP (bestK t x n (x.length - 1)).2 (n * (t * nthI x (bestK t x n (x.length - 1)).1)) ≤ engrP (bestK t l n (l.length - 1)).2 (n * (t * nthI l (bestK t l n (l.length - 1)).1)) := by
  have hl' := headOk_iff.1 hl
  have hx' := headOk_iff.1 hx
  have pl : ∀ i : Nat, i < l.length → 0 < nthI l i := fun i hi => by
    have e : l[i]? = some l[i] := List.getElem?_eq_getElem hi
    rw [nthI_at e]; have := head_at hl e; omega
  have px : ∀ i : Nat, i < x.length → 0 < nthI x i := fun i hi => by
    have e : x[i]? = some x[i] := List.getElem?_eq_getElem hi
    rw [nthI_at e]; have := head_at hx e; omega
  obtain ⟨b1, b2, b3⟩ := bestK_spec t l n (l.length - 1)
  obtain ⟨c1, c2, c3⟩ := bestK_spec t x n (x.length - 1)
  obtain ⟨i, hi⟩ := Int.eq_ofNat_of_zero_le b1
  obtain ⟨k, hk⟩ := Int.eq_ofNat_of_zero_le c1
  have e1 : l[i]? = some l[i] := List.getElem?_eq_getElem (by omega)
  obtain ⟨j, hj⟩ := List.mem_iff_getElem?.1 (h.mem (List.mem_of_getElem? e1))
  have hjl := (List.getElem?_eq_some_iff.1 hj).1
  have hb := bestK_least (t := t) (n := n) px (show x.length - 1 < x.length by omega) (show j ≤ x.length - 1 by omega)
  have e3 : nthI x j = nthI l i := by rw [nthI_at hj, nthI_at e1]
  rw [e3] at hb
  rw [hi] at b3 ⊢
  rw [hk] at hb ⊢
  rw [← b3] at hb
  rw [← Int.mul_assoc, ← Int.mul_assoc]
  exact engr_mono (Int.mul_pos hn (by omega)) (px k (by omega)) (pl i (by omega)) hb
/-- A pair that is one is among the candidates, and no better than the best. -/
theorem comp_fewest {t n : Int} {l : List Int} {i k : Nat} {x y : Int} (hn : 0 < n) (hik : i < k) (hk : k < l.length) (ha : 0 < nthI l i) (hx1 : -2000 ≤ x) (hx2 : x ≤ 2000)
    (h : (t * nthI l i * nthI l k - n * x * nthI l k) % (n * nthI l i) = 0) (hy : (t * nthI l i * nthI l k - n * x * nthI l k) / (n * nthI l i) = y) (hy1 : -2000 ≤ y) (hy2 : y ≤ 2000) :
    ∃ r, compP t l n = some r ∧ (holP r < absI x + absI y ∨ holP r = absI x + absI y ∧ ((r.a = i ∧ r.b = k ∧ r.x = x) ∨ befP r ⟨i, k, x, y⟩)) := by
  have hall := Int.mul_ediv_add_emod (t * nthI l i * nthI l k - n * x * nthI l k) (n * nthI l i)
  rw [h, hy] at hall
  generalize he : nthI l i = a at *
  generalize hf : nthI l k = b at *
  have e1 : t * a * b = n * (a * y + x * b) := by
    have : n * a * y + n * x * b = n * (a * y + x * b) := by rw [Int.mul_add, Int.mul_assoc, Int.mul_assoc]
    omega
  have q1 : t * a * b % n = 0 := by rw [e1, Int.mul_emod_right]
  have q2 : t * a * b / n = a * y + x * b := by rw [e1, Int.mul_ediv_cancel_left _ (by omega)]
  have q3 : (a * y + x * b - x * b) = a * y := by omega
  have hp : prAt t (nthI l i) (nthI l k) n i k (((x + 2000).toNat : Nat) - 2000 : Int) = some ⟨i, k, x, y⟩ := by
    have ex : (((x + 2000).toNat : Nat) - 2000 : Int) = x := by omega
    rw [ex, he, hf]
    unfold prAt
    rw [q2, q3, Int.mul_emod_right, Int.mul_ediv_cancel_left _ (by omega), if_pos ⟨q1, rfl, inB_iff.2 ⟨hy1, hy2⟩⟩]
  have hm : (⟨i, k, x, y⟩ : Pr) ∈ cands t l n l.length := cands_mem.2 ⟨i, k, (x + 2000).toNat, hik, hk, by omega, hp⟩
  cases hr : compP t l n with
  | none => rw [compP_none] at hr; rw [hr] at hm; cases hm
  | some r =>
    refine ⟨r, rfl, ?_⟩
    rcases (compP_some hr).2 _ hm with h1 | ⟨h1, h2 | h2⟩
    · exact .inl h1
    · exact .inr ⟨h1, .inl (by rw [h2]; exact ⟨rfl, rfl, rfl⟩)⟩
    · exact .inr ⟨h1, .inr h2⟩
/-- What a compound plan does. -/
theorem comp_closes {t n : Int} {l : List Int} {r : Pr} (hn : 0 < n) (hl : headOk t l = true) (h : compP t l n = some r) :
    (0 ≤ r.a ∧ r.a < r.b ∧ r.b < l.length) ∧ (-2000 ≤ r.x ∧ r.x ≤ 2000) ∧ (-2000 ≤ r.y ∧ r.y ≤ 2000) ∧ n * (r.x * nthI l r.b + r.y * nthI l r.a) = t * nthI l r.a * nthI l r.b := by
  obtain ⟨i, k, j, h1, h2, h3, h4⟩ := cands_mem.1 (compP_some h).1
  obtain ⟨e1, e2, e3, e4, e5, e6, e7, e8⟩ := prAt_eq h4
  have hi : l[i]? = some l[i] := List.getElem?_eq_getElem (by omega)
  have ha := head_at hl hi
  rw [← nthI_at hi] at ha
  refine ⟨by omega, by omega, by omega, ?_⟩
  rw [e1, e2]
  generalize nthI l i = a at *
  generalize nthI l k = b at *
  have g1 := Int.mul_ediv_add_emod (t * a * b) n
  have g2 := Int.mul_ediv_add_emod (t * a * b / n - j * b) a
  rw [e3, e6]
  have g3 := Int.mul_ediv_add_emod (t * a * b / n - ((j : Int) - 2000) * b) a
  rw [e5, Int.mul_comm a] at g3
  have g4 : ((j : Int) - 2000) * b + (t * a * b / n - ((j : Int) - 2000) * b) / a * a = t * a * b / n := by omega
  rw [g4]; omega
/-- Plans, one after the other. -/
theorem plansTo_mem {t n : Int} {l : List Int} {k : Nat} {p : Pl} : p ∈ plansTo t l n k ↔ ∃ i : Nat, i < k ∧ planAt t (nthI l i) n i = some p := by
  unfold plansTo
  rw [List.mem_filterMap]
  simp only [List.mem_range]
theorem plansTo_pw (t : Int) (l : List Int) (n : Int) (k : Nat) : (plansTo t l n k).Pairwise fun p q => p.c < q.c := by
  unfold plansTo
  rw [List.pairwise_filterMap]
  refine List.Pairwise.imp ?_ List.pairwise_lt_range
  intro c d hcd p hp q hq
  unfold planAt at hp hq
  split at hp
  · split at hq
    · cases hp; cases hq; simp only; omega
    · cases hq
  · cases hp
/-- What a plan does: how many holes it moves. -/
theorem plan_moves {t n : Int} {l : List Int} {p : Pl} (hn : 0 < n) (hl : headOk t l = true) (h : p ∈ plansP t l n) :
    (0 ≤ p.c ∧ p.c < l.length) ∧ (0 ≤ p.t ∧ p.t ≤ 400) ∧ (0 ≤ p.h ∧ p.h ≤ nthI l p.c - 1) ∧ n * (p.t * nthI l p.c + p.h) = t * nthI l p.c := by
  obtain ⟨i, hi, hp⟩ := plansTo_mem.1 h
  have e : l[i]? = some l[i] := List.getElem?_eq_getElem hi
  have ha := head_at hl e
  have hl' := headOk_iff.1 hl
  rw [← nthI_at e] at ha
  obtain ⟨e1, e2, e3, e4⟩ := plan_spec hn (by omega) hp
  have et : p.t = t * nthI l i / n / nthI l i := by
    unfold planAt at hp; split at hp
    · cases hp; rfl
    · cases hp
  have t0 : 0 ≤ t * nthI l i := Int.mul_nonneg (by omega) (by omega)
  have t1 : 0 ≤ t * nthI l i / n := Int.ediv_nonneg t0 (by omega)
  have t2 : 0 ≤ p.t := by rw [et]; exact Int.ediv_nonneg t1 (by omega)
  have t3 : p.t ≤ t := by
    rw [et]
    have h1 : t * nthI l i / n ≤ t * nthI l i := Int.ediv_le_self _ t0
    have h2 : t * nthI l i / n / nthI l i ≤ t * nthI l i / nthI l i := Int.ediv_le_ediv (by omega) h1
    rw [Int.mul_ediv_cancel _ (by omega)] at h2
    exact h2
  rw [e1]
  exact ⟨by omega, by omega, by omega, e4⟩
theorem fewer_not {n m a less : Int} (hn : 0 < n) (ha : 0 < a) (h : n * m = a) : less % n * m ≠ a := by
  have h2 := Int.emod_lt_of_pos less hn
  have hm : 0 < m := by
    rcases Int.lt_or_le 0 m with h' | h'
    · exact h'
    · have : n * m ≤ 0 := Int.mul_nonpos_of_nonneg_of_nonpos (by omega) h'
      omega
  have := Int.mul_lt_mul_of_pos_right h2 hm
  omega
/-- Differentials. -/
theorem diff1_some {t : Int} {l st : List Int} {n aside m : Int} {x : Df} (h : diff1 t l st n aside m = some x) : inB m 1 20000 = true ∧ x.m = m ∧ x.p ∈ plansP t l m ∧ trainP st (t * aside) m = some x.t ∧ x.on = decide (m > n) := by
  unfold diff1 at h
  split at h
  · cases h
  · rename_i h1
    split at h
    · cases h
    · rename_i p ps hp
      split at h
      · cases h
      · rename_i tr htr
        cases h
        exact ⟨by simpa using h1, rfl, by rw [hp]; simp, htr, rfl⟩
theorem diff_some {t : Int} {l st : List Int} {n : Int} {x : Df} (h : diffP t l st n = some x) : ∃ aside : Int, 1 ≤ aside ∧ aside ≤ 20 ∧ (x.m = n - aside ∨ x.m = n + aside) ∧ inB x.m 1 20000 = true ∧ x.p ∈ plansP t l x.m ∧ trainP st (t * aside) x.m = some x.t ∧ x.on = decide (x.m > n) := by
  change fsTo (fun i : Nat => diff2 t l st n ((i : Int) + 1)) 20 = some x at h
  obtain ⟨i, hi, _, h⟩ := fsTo_some h
  refine ⟨(i : Int) + 1, by omega, by omega, ?_⟩
  unfold diff2 at h
  split at h
  · rename_i y hy
    cases h
    obtain ⟨a, b, c, d, e⟩ := diff1_some hy
    rw [b]; exact ⟨.inl rfl, a, c, d, by rw [e]⟩
  · obtain ⟨a, b, c, d, e⟩ := diff1_some h
    rw [b]; exact ⟨.inr rfl, a, c, d, by rw [e]⟩
theorem together {n m t h q p L aside : Int} (hL : 0 < L) (h1 : L * m = t * h) (h2 : p * L = q * (t * aside)) : (L = n + aside → n * m * q + p * h = t * h * q) ∧ (L = n - aside → n * m * q + -(p * h) = t * h * q) := by
  have key : p * h = aside * m * q := by
    have : (p * h) * L = (aside * m * q) * L := by
      have a1 : (p * h) * L = p * L * h := by rw [Int.mul_assoc, Int.mul_comm h L, ← Int.mul_assoc]
      have a2 : q * (t * aside) * h = aside * q * (t * h) := by grind
      rw [a1, h2, a2, ← h1]; grind
    exact Int.eq_of_mul_eq_mul_right (by omega) this
  rw [key, ← h1]
  constructor
  · intro e; subst e; grind
  · intro e; subst e; grind
end Go.Oc.Ix

/- Part QmEv. -/
namespace Go.Pm
open Go Go.RowKit

variable {P : Program}

def getB : List (Nat × PV) → Nat → PV
  | [], _ => .junk
  | (d, v) :: l, t => bif Nat.beq d t then v else getB l t
theorem getB_eq : ∀ (l : List (Nat × PV)) (t : Nat), getB l t = getA l t
  | [], _ => rfl
  | (d, v) :: l, t => by
    unfold getB getA
    rw [getB_eq l t]
    by_cases h : d = t
    · subst h; simp
    · rw [if_neg h]; have : Nat.beq d t = false := by cases hb : Nat.beq d t with
      | true => exact (h (Nat.eq_of_beq_eq_true hb)).elim
      | false => rfl
      rw [this]; rfl
def evalB (s : CS) : Operand → PV
  | .tmp t => getB s.env t
  | .const v => constP v
  | .func f => .t (.fn f [] [])
  | .global g => globP g
theorem evalB_eq (s : CS) : evalB s = s.eval := by
  funext x; cases x <;> first | rfl | exact getB_eq _ _

def dedE : List (Nat × PV) → List Nat → List (Nat × PV)
  | [], _ => []
  | (d, v) :: l, seen => bif seen.any (Nat.beq d) then dedE l seen else (d, v) :: dedE l (d :: seen)
theorem dedE_get : ∀ (l : List (Nat × PV)) (seen : List Nat) (t : Nat), t ∉ seen → getA (dedE l seen) t = getA l t
  | [], _, _, _ => rfl
  | (d, v) :: l, seen, t, h => by
    unfold dedE
    cases hd : seen.any (Nat.beq d) with
    | true =>
      have hm : d ∈ seen := by
        rw [List.any_eq_true] at hd
        obtain ⟨x, h1, h2⟩ := hd
        have : d = x := by simpa using h2
        rw [this]; exact h1
      have hne : d ≠ t := fun e => h (e ▸ hm)
      simp only [cond_true]
      rw [dedE_get l seen t h]
      show _ = if d = t then v else getA l t
      rw [if_neg hne]
    | false =>
      simp only [cond_false]
      show (if d = t then v else getA (dedE l (d :: seen)) t) = if d = t then v else getA l t
      by_cases e : d = t
      · rw [if_pos e, if_pos e]
      · rw [if_neg e, if_neg e]
        exact dedE_get l (d :: seen) t (by simp only [List.mem_cons, not_or]; exact ⟨fun h' => e h'.symm, h⟩)
theorem dedE_keys {n : Nat} : ∀ (l : List (Nat × PV)) (seen : List Nat), keysOk n l = true → keysOk n (dedE l seen) = true
  | [], _, _ => rfl
  | (d, v) :: l, seen, h => by
    simp only [keysOk, List.all_cons, Bool.and_eq_true, decide_eq_true_eq] at h
    unfold dedE
    cases seen.any (Nat.beq d) with
    | true => exact dedE_keys l seen (by simpa [keysOk] using h.2)
    | false =>
      simp only [cond_false, keysOk, List.all_cons, Bool.and_eq_true, decide_eq_true_eq]
      exact ⟨h.1, by have := dedE_keys l (d :: seen) (by simpa [keysOk] using h.2); simpa [keysOk] using this⟩
def comp (s : CS) : CS := { env := dedE s.env [], heap := s.heap }
theorem comp_ps {n : Nat} (s : CS) : toPS n (comp s) = toPS n s := by
  unfold toPS comp
  simp only [PS.mk.injEq, and_true]
  exact List.map_congr_left fun t _ => dedE_get s.env [] t (by simp)

/-- One operation. -/
noncomputable def stepE (P : Program) (sp : Spec) (Y : YS) (n : Nat) (ops : Array Oper) (o : Oper) (s : CS) : Option (CS × Foot) :=
  match guardC ops o s with
  | none => none
  | some b => bif sp.gd && !b then some (s.put n o.dst (condW o b .junk) s.heap, ([], false)) else match yldB b o.op (seenBy o b (evalB s)) with
    | some _ => none
    | none => match valY P sp Y o.op (seenBy o b (evalB s)) s.heap with
      | some (v, W, f) => bif b || W.isEmpty then some (s.put n o.dst (condW o b v) (wrC s.heap W), f) else none
      | none => bif b then none else some (s.put n o.dst (condW o b .junk) s.heap, ([], false))
theorem stepE_C {sp : Spec} {Y : YS} {n : Nat} {ops : Array Oper} {o : Oper} {s s' : CS} {f : Foot} {K : CS → Foot → Prop} (h : stepE P sp Y n ops o s = some (s', f)) (hK : K s' f) : stepC P sp Y n ops o s K := by
  unfold stepE at h
  rw [evalB_eq] at h
  unfold stepC
  split at h
  · cases h
  · rename_i b hb
    rw [hb]; simp only
    cases hgd : (sp.gd && !b) with
    | true =>
      rw [hgd] at h
      simp only [cond_true, Option.some.injEq, Prod.mk.injEq] at h
      obtain ⟨rfl, rfl⟩ := h
      exact hK
    | false =>
    rw [hgd] at h
    simp only [cond_false] at h ⊢
    split at h
    · cases h
    · rename_i hy
      split at h
      · rename_i v W f' hv
        cases hbw : (b || W.isEmpty) with
        | false => rw [hbw] at h; cases h
        | true =>
          rw [hbw] at h
          simp only [cond_true, Option.some.injEq, Prod.mk.injEq] at h
          obtain ⟨rfl, rfl⟩ := h
          simp only [hy, hv]
          refine ⟨fun e => ?_, hK⟩
          subst e
          simpa using hbw
      · rename_i hv
        cases b with
        | true => cases h
        | false =>
          simp only [cond_false, Option.some.injEq, Prod.mk.injEq] at h
          obtain ⟨rfl, rfl⟩ := h
          simp only [hy, hv]
          exact ⟨trivial, hK⟩
noncomputable def popsE (P : Program) (sp : Spec) (Y : YS) (n : Nat) (ops : Array Oper) : List Oper → CS → List Foot → Option (CS × List Foot)
  | [], s, fs => some (s, fs)
  | o :: l, s, fs => match stepE P sp Y n ops o s with
    | some (s', f) => popsE P sp Y n ops l s' (fs ++ [f])
    | none => none
theorem popsE_C {sp : Spec} {Y : YS} {n : Nat} {ops : Array Oper} {K : CS → List Foot → Prop} : ∀ (l : List Oper) (s : CS) (fs : List Foot) (s' : CS) (fs' : List Foot), popsE P sp Y n ops l s fs = some (s', fs') → K s' fs' → popsC P sp Y n ops l s fs K
  | [], s, fs, s', fs', h, hK => by unfold popsE at h; cases h; exact hK
  | o :: l, s, fs, s', fs', h, hK => by
    unfold popsE at h
    split at h
    · rename_i s1 f h1
      exact stepE_C h1 (popsE_C l s1 _ s' fs' h hK)
    · cases h

theorem stepE_key {sp : Spec} {Y : YS} {n : Nat} {ops : Array Oper} {o : Oper} {s s' : CS} {f : Foot} (hk : keysOk n s.env = true) (h : stepE P sp Y n ops o s = some (s', f)) : keysOk n s'.env = true := by
  unfold stepE at h
  split at h
  · cases h
  · rename_i b _
    cases hgd : (sp.gd && !b) with
    | true =>
      rw [hgd] at h
      simp only [cond_true, Option.some.injEq, Prod.mk.injEq] at h
      obtain ⟨rfl, _⟩ := h
      exact keys_put hk _ _ _
    | false =>
    rw [hgd] at h
    simp only [cond_false] at h
    split at h
    · cases h
    · split at h
      · rename_i v W f' _
        cases hbw : (b || W.isEmpty) <;> rw [hbw] at h
        · cases h
        · simp only [cond_true, Option.some.injEq, Prod.mk.injEq] at h
          obtain ⟨rfl, _⟩ := h
          exact keys_put hk _ _ _
      · cases b
        · simp only [cond_false, Option.some.injEq, Prod.mk.injEq] at h
          obtain ⟨rfl, _⟩ := h
          exact keys_put hk _ _ _
        · cases h
theorem popsE_key {sp : Spec} {Y : YS} {n : Nat} {ops : Array Oper} : ∀ (l : List Oper) (s : CS) (fs : List Foot) (s' : CS) (fs' : List Foot), keysOk n s.env = true → popsE P sp Y n ops l s fs = some (s', fs') → keysOk n s'.env = true
  | [], s, fs, s', fs', hk, h => by unfold popsE at h; cases h; exact hk
  | o :: l, s, fs, s', fs', hk, h => by
    unfold popsE at h
    split at h
    · rename_i s1 f h1
      exact popsE_key l s1 _ s' fs' (stepE_key hk h1) h
    · cases h

noncomputable def loopE (g : CS → Option (Exit × CS)) : Nat → CS → Option (Exit × CS)
  | 0, _ => none
  | k + 1, s => match g s with
    | some (.normal, s') => loopE g k (comp s')
    | r => r
noncomputable def ev (P : Program) (sp : Spec) (N n : Nat) : Code → CS → Option (Exit × CS)
  | .skip, s => some (.normal, s)
  | .label _, s => some (.normal, s)
  | .region _ ops draw, s => match popsE P sp noY n ops ops.toList s [] with
    | some (s', fs) => bif !draw || drawOk ops fs then some (.normal, s') else none
    | none => none
  | .seq a b, s => match ev P sp N n a s with
    | some (.normal, s') => ev P sp N n b s'
    | r => r
  | .cond c a b, s => match evalB s c with
    | .t (.bool true) => ev P sp N n a s
    | .t (.bool false) => ev P sp N n b s
    | _ => none
  | .block id c, s => match ev P sp N n c s with
    | some (.exit i, s') => bif Nat.beq i id then some (.normal, s') else some (.exit i, s')
    | r => r
  | .scope c, s => match ev P sp N n c s with
    | some (.goto _, _) => none
    | r => r
  | .loop c, s => loopE (ev P sp N n c) N s
  | .exit id, s => some (.exit id, s)
  | .ret, s => some (.ret, s)
  | _, _ => none

theorem loopE_ok {n : Nat} {X : PX} {c : Code} {g : CS → Option (Exit × CS)} (hg : ∀ s e s', keysOk n s.env = true → g s = some (e, s') → keysOk n s'.env = true ∧ ∀ Q : Exit → PS → Prop, Q e (toPS n s') → pwp P X c Q (toPS n s)) :
    ∀ (k : Nat) (s : CS) (e : Exit) (s' : CS), keysOk n s.env = true → loopE g k s = some (e, s') → keysOk n s'.env = true ∧ ∀ Q : Exit → PS → Prop, Q e (toPS n s') → pwp P X (.loop c) Q (toPS n s)
  | 0, s, e, s', hk, h => by unfold loopE at h; cases h
  | k + 1, s, e, s', hk, h => by
    unfold loopE at h
    split at h
    · rename_i s1 h1
      obtain ⟨k1, q1⟩ := hg s _ s1 hk h1
      obtain ⟨k2, q2⟩ := loopE_ok hg k (comp s1) e s' (dedE_keys _ _ k1) h
      refine ⟨k2, fun Q hQ => ?_⟩
      obtain ⟨A, S, μ, x0, hw, hb⟩ := q2 Q hQ
      rw [comp_ps] at hw
      refine ⟨Option A, fun x => match x with | none => toPS n s | some x => S x, fun x => match x with | none => μ x0 + 1 | some x => μ x, none, Weak.refl _ _, fun x => ?_⟩
      cases x with
      | none => exact q1 _ ⟨some x0, hw, Nat.lt_succ_self _⟩
      | some x => exact pwp_mono c (fun e σ hs => by
          cases e with
          | normal => obtain ⟨x', h1, h2⟩ := hs; exact ⟨some x', h1, h2⟩
          | _ => exact hs) _ (hb x)
    · rename_i hne
      obtain ⟨k1, q1⟩ := hg s e s' hk h
      refine ⟨k1, fun Q hQ => ?_⟩
      refine ⟨Unit, fun _ => toPS n s, fun _ => 0, (), Weak.refl _ _, fun _ => q1 _ ?_⟩
      cases e with
      | normal => exact (hne s' h).elim
      | _ => exact hQ
theorem ev_ok {sp : Spec} (hsp : SpecOk P sp) {N n k : Nat} {b0 : Bool} : ∀ (c : Code) (s : CS) (e : Exit) (s' : CS), keysOk n s.env = true → ev P sp N n c s = some (e, s') → keysOk n s'.env = true ∧ ∀ Q : Exit → PS → Prop, Q e (toPS n s') → pwp P ⟨noY, k, b0⟩ c Q (toPS n s)
  | .skip, s, e, s', hk, h => by unfold ev at h; cases h; exact ⟨hk, fun Q h => h⟩
  | .label _, s, e, s', hk, h => by unfold ev at h; cases h; exact ⟨hk, fun Q h => h⟩
  | .region _ ops draw, s, e, s', hk, h => by
    unfold ev at h
    split at h
    · rename_i s1 fs h1
      cases hd : (!draw || drawOk ops fs) with
      | false => rw [hd] at h; cases h
      | true =>
        rw [hd] at h; cases h
        have hd' : draw = true → drawOk ops fs = true := fun e => by subst e; simpa using hd
        have hp := fun (Q : Exit → PS → Prop) (hQ : Q .normal (toPS n s')) => popsC_pops (P := P) hsp (n := n) (ops := ops) ops.toList 0 s [] hk (by simp) (popsE_C (K := fun s2 fs2 => s2 = s' ∧ fs2 = fs) _ _ _ _ _ h1 ⟨rfl, rfl⟩)
        have hkey : keysOk n s'.env = true := popsE_key ops.toList s [] s' fs hk h1
        refine ⟨hkey, fun Q hQ => ?_⟩
        show pregion P noY ops draw (Q .normal) (toPS n s)
        unfold pregion
        rw [List.range_eq_range']
        refine pops_mono _ (fun σ fs' hs => ?_) (by simpa using hp Q hQ)
        obtain ⟨s2, rfl, _, rfl, rfl⟩ := hs
        exact ⟨hd', hQ⟩
    · cases h
  | .seq a b, s, e, s', hk, h => by
    unfold ev at h
    split at h
    · rename_i s1 h1
      obtain ⟨k1, q1⟩ := ev_ok hsp a s _ s1 hk h1
      obtain ⟨k2, q2⟩ := ev_ok hsp b s1 e s' k1 h
      exact ⟨k2, fun Q hQ => q1 _ (q2 Q hQ)⟩
    · rename_i hne
      obtain ⟨k1, q1⟩ := ev_ok hsp a s e s' hk h
      refine ⟨k1, fun Q hQ => q1 _ ?_⟩
      cases e with
      | normal => exact (hne s' h).elim
      | _ => exact hQ
  | .cond c a b, s, e, s', hk, h => by
    unfold ev at h
    rw [evalB_eq] at h
    split at h
    · rename_i hc
      obtain ⟨k1, q1⟩ := ev_ok hsp a s e s' hk h
      exact ⟨k1, fun Q hQ => ⟨true, by rw [toPS_eval hk]; exact hc, fun _ => q1 Q hQ, fun e => by cases e⟩⟩
    · rename_i hc
      obtain ⟨k1, q1⟩ := ev_ok hsp b s e s' hk h
      exact ⟨k1, fun Q hQ => ⟨false, by rw [toPS_eval hk]; exact hc, fun e => (by cases e), fun _ => q1 Q hQ⟩⟩
    · cases h
  | .block id c, s, e, s', hk, h => by
    unfold ev at h
    split at h
    · rename_i i s1 h1
      obtain ⟨k1, q1⟩ := ev_ok hsp c s _ s1 hk h1
      cases hb : Nat.beq i id with
      | true =>
        rw [hb] at h; cases h
        have : i = id := Nat.eq_of_beq_eq_true hb
        exact ⟨k1, fun Q hQ => q1 _ (by show (if i = id then _ else _); rw [if_pos this]; exact hQ)⟩
      | false =>
        rw [hb] at h; cases h
        have : ¬ i = id := fun e => by rw [e] at hb; simp at hb
        exact ⟨k1, fun Q hQ => q1 _ (by show (if i = id then _ else _); rw [if_neg this]; exact hQ)⟩
    · rename_i hne
      obtain ⟨k1, q1⟩ := ev_ok hsp c s e s' hk h
      refine ⟨k1, fun Q hQ => q1 _ ?_⟩
      cases e with
      | exit i => exact (hne i s' h).elim
      | _ => exact hQ
  | .scope c, s, e, s', hk, h => by
    unfold ev at h
    split at h
    · cases h
    · rename_i hne
      obtain ⟨k1, q1⟩ := ev_ok hsp c s e s' hk h
      refine ⟨k1, fun Q hQ => q1 _ ?_⟩
      cases e with
      | goto i => exact (hne i s' h).elim
      | _ => exact hQ
  | .loop c, s, e, s', hk, h => by
    unfold ev at h
    exact loopE_ok (fun s e s' hk h => ev_ok hsp c s e s' hk h) N s e s' hk h
  | .exit id, s, e, s', hk, h => by unfold ev at h; cases h; exact ⟨hk, fun Q h => h⟩
  | .ret, s, e, s', hk, h => by unfold ev at h; cases h; exact ⟨hk, fun Q h => h⟩
  | .rangeFunc .., s, e, s', hk, h => by unfold ev at h; cases h
  | .goto .., s, e, s', hk, h => by unfold ev at h; cases h
  | .refuse .., s, e, s', hk, h => by unfold ev at h; cases h

def endE : Exit → Bool
  | .normal | .ret => true
  | _ => false
/-- A function of trees, reckoned to its end. -/
noncomputable def evP (P : Program) (sp : Spec) (N : Nat) (f : FuncId) (al : List TV) : Option TV :=
  match P.funcs[f]? with
  | some fn => match fn.body with
    | some c => bif !(fn.name == "runtime.NumGoroutine") && Nat.ble al.length fn.ntmps then
        match ev P sp N fn.ntmps c { env := argsE (al.map .t) 0, heap := [] } with
        | some (e, s) => bif endE e && Nat.beq (cntL s.heap) 0 && Nat.beq (cntL (frzC P fn.results.toList s).heap) 0 then
            match resC P fn.results.toList (frzC P fn.results.toList s) with
            | some (.t r) => some r
            | _ => none
          else none
        | none => none
      else none
    | none => none
  | none => none
/-- A function that knows objects. -/
noncomputable def evH (P : Program) (sp : Spec) (N : Nat) (f : FuncId) (al : List PV) (hl : List PO) : Option (PV × List PO) :=
  match P.funcs[f]? with
  | some fn => match fn.body with
    | some c => bif !(fn.name == "runtime.NumGoroutine") && Nat.ble al.length fn.ntmps then
        match ev P sp N fn.ntmps c { env := argsE al 0, heap := hl } with
        | some (e, s) => bif endE e && Nat.ble hl.length s.heap.length && s.heap.all (PO.under s.heap.length) then
            match resC P fn.results.toList s with
            | some v => bif v.under s.heap.length then some (v, s.heap) else none
            | none => none
          else none
        | none => none
      else none
    | none => none
  | none => none

theorem pcalls_pwp (hm : P.follows .mixedOrders = true) {f : FuncId} {fn : Func} {c : Code} {args : List TV} {r : TV} (hf : P.funcs[f]? = some fn) (hb : fn.body = some c) (hname : (fn.name == "runtime.NumGoroutine") = false)
    (hn : args.length ≤ fn.ntmps) (hw : pwp P ⟨noY, 0, false⟩ c (liftC fn.ntmps (bodyC P fn.results.toList r)) (toPS fn.ntmps { env := argsE (args.map .t) 0, heap := [] })) : PCalls P f args r := by
  have h0 : noH = getL [] := by funext i; simp [noH, getL]
  refine hcalls_of (k := 0) hm hf hb hname (fun _ _ => rfl) (by rw [h0]; exact start_weak (by simpa using hn)) (pwp_mono c (fun e σ hs => ?_) _ hw)
  obtain ⟨s', rfl, hk', hq⟩ := hs
  have fin : resC P fn.results.toList (frzC P fn.results.toList s') = some (.t r) ∧ cntL s'.heap = 0 ∧ cntL (frzC P fn.results.toList s').heap = 0 → ∃ s1, Weak P 0 (toPS fn.ntmps s') s1 ∧ ∃ p, resO P fn.results.toList s1 = some p ∧ Weak P 0 ⟨[p], s1.heap⟩ ⟨[.t r], noH⟩ := fun hq => by
    refine ⟨_, frzC_weak (rs := fn.results.toList) (by rw [hq.2.1, hq.2.2]), .t r, (resC_eq (frzC_keys hk')).trans hq.1, weak_of (m := 0) (Nat.le_refl _) rfl (fun i p p' hp hp' => ?_) (fun id hid => by omega) (fun _ _ => rfl) ?_⟩
    · rw [hp] at hp'; cases hp'
      cases i with
      | zero => simp at hp; subst hp; exact ⟨.inr (.inl rfl), rfl⟩
      | succ i => simp at hp
    · show cntOf noH = cntOf (getL (frzC P fn.results.toList s').heap)
      rw [cntL_eq, hq.2.2]; rfl
  cases e with
  | normal => exact fin hq
  | ret => exact fin hq
  | _ => exact hq.elim
theorem hcalls_pwp (hm : P.follows .mixedOrders = true) {f : FuncId} {fn : Func} {c : Code} {al : List PV} {hl hl' : List PO} {v : PV} (hf : P.funcs[f]? = some fn) (hb : fn.body = some c) (hname : (fn.name == "runtime.NumGoroutine") = false)
    (hn : al.length ≤ fn.ntmps) (hw : pwp P ⟨noY, hl.length, false⟩ c (liftC fn.ntmps (bodyH P hl.length fn.results.toList v hl')) (toPS fn.ntmps { env := argsE al 0, heap := hl })) : HCalls P f al (getL hl) v (getL hl') := by
  refine hcalls_of (k := hl.length) hm hf hb hname (fun id hid => getL_out hid) (start_weak hn) (pwp_mono c (fun e σ hs => ?_) _ hw)
  obtain ⟨s', rfl, hk', hq⟩ := hs
  have fin : (∃ p, resC P fn.results.toList s' = some p ∧ cellW hl' p v ∧ v.under hl'.length = true ∧ heapW hl' s'.heap hl' ∧ hl'.all (PO.under hl'.length) = true ∧ hl.length ≤ hl'.length ∧ cntL hl' = cntL s'.heap) →
      ∃ s1, Weak P hl.length (toPS fn.ntmps s') s1 ∧ ∃ p, resO P fn.results.toList s1 = some p ∧ Weak P hl.length ⟨[p], s1.heap⟩ ⟨[v], getL hl'⟩ := by
    rintro ⟨p, h1, h2, h3, h4, h5, h6, h7⟩
    refine ⟨_, Weak.refl _ _, p, (resC_eq hk').trans h1, weak_of (m := hl'.length) h6 rfl (fun i q q' hq hq' => ?_) (fun id hid => ⟨heapW_le h4 id hid, ?_⟩) (fun id hid => getL_out hid) (by show cntOf (getL hl') = cntOf (getL s'.heap); rw [cntL_eq, cntL_eq, h7])⟩
    · cases i with
      | zero => simp at hq hq'; subst hq; subst hq'; exact ⟨cellW_le h2, h3⟩
      | succ i => simp at hq
    · rw [List.all_eq_true] at h5
      refine h5 _ ?_
      show hl'.getD id .res ∈ hl'
      rw [List.getD_eq_getElem?_getD, List.getElem?_eq_getElem hid]; exact List.getElem_mem hid
  cases e with
  | normal => exact fin hq
  | ret => exact fin hq
  | _ => exact hq.elim
theorem cellW_refl (l : List PO) (p : PV) : cellW l p p := by
  cases p <;> simp [cellW, PV.toT]
theorem cellsW_refl (l : List PO) : ∀ cs : List PV, cellsW l cs cs
  | [] => trivial
  | c :: cs => ⟨cellW_refl l c, cellsW_refl l cs⟩
theorem objW_refl (l : List PO) (o : PO) : objW l o o := by
  cases o <;> simp [objW, cellsW_refl]
theorem heapW_refl (hp : List PO) : ∀ l : List PO, heapW hp l l
  | [] => by unfold heapW; trivial
  | o :: l => ⟨objW_refl hp o, heapW_refl hp l⟩

theorem evP_ok (hm : P.follows .mixedOrders = true) {sp : Spec} (hsp : SpecOk P sp) {N : Nat} {f : FuncId} {al : List TV} {r : TV} (h : evP P sp N f al = some r) : PCalls P f al r := by
  unfold evP at h
  split at h
  · rename_i fn hf
    split at h
    · rename_i c hc
      cases h1 : (!(fn.name == "runtime.NumGoroutine") && Nat.ble al.length fn.ntmps) with
      | false => rw [h1] at h; cases h
      | true =>
        rw [h1] at h; simp only [cond_true] at h
        simp only [Bool.and_eq_true, Bool.not_eq_true'] at h1
        have hn : al.length ≤ fn.ntmps := Nat.le_of_ble_eq_true h1.2
        split at h
        · rename_i e s he
          cases h2 : (endE e && Nat.beq (cntL s.heap) 0 && Nat.beq (cntL (frzC P fn.results.toList s).heap) 0) with
          | false => rw [h2] at h; cases h
          | true =>
            rw [h2] at h; simp only [cond_true] at h
            simp only [Bool.and_eq_true] at h2
            obtain ⟨⟨h3, h4⟩, h5⟩ := h2
            have h4 : cntL s.heap = 0 := by simpa using h4
            have h5 : cntL (frzC P fn.results.toList s).heap = 0 := by simpa using h5
            split at h
            · rename_i r' hr
              cases h
              obtain ⟨k1, q1⟩ := ev_ok (k := 0) (b0 := false) hsp c _ e s (argsE_keys _ 0 _ (by simpa using hn)) he
              refine pcalls_pwp hm hf hc h1.1 hn (q1 _ ⟨s, rfl, k1, ?_⟩)
              cases e with
              | normal => exact ⟨hr, h4, h5⟩
              | ret => exact ⟨hr, h4, h5⟩
              | _ => cases h3
            · cases h
        · cases h
    · cases h
  · cases h
theorem evH_ok (hm : P.follows .mixedOrders = true) {sp : Spec} (hsp : SpecOk P sp) {N : Nat} {f : FuncId} {al : List PV} {hl hl' : List PO} {v : PV} (h : evH P sp N f al hl = some (v, hl')) : HCalls P f al (getL hl) v (getL hl') := by
  unfold evH at h
  split at h
  · rename_i fn hf
    split at h
    · rename_i c hc
      cases h1 : (!(fn.name == "runtime.NumGoroutine") && Nat.ble al.length fn.ntmps) with
      | false => rw [h1] at h; cases h
      | true =>
        rw [h1] at h; simp only [cond_true] at h
        simp only [Bool.and_eq_true, Bool.not_eq_true'] at h1
        have hn : al.length ≤ fn.ntmps := Nat.le_of_ble_eq_true h1.2
        split at h
        · rename_i e s he
          cases h2 : (endE e && Nat.ble hl.length s.heap.length && s.heap.all (PO.under s.heap.length)) with
          | false => rw [h2] at h; cases h
          | true =>
            rw [h2] at h; simp only [cond_true] at h
            simp only [Bool.and_eq_true] at h2
            obtain ⟨⟨h3, h4⟩, h5⟩ := h2
            split at h
            · rename_i v' hr
              cases h6 : v'.under s.heap.length with
              | false => rw [h6] at h; cases h
              | true =>
                rw [h6] at h; cases h
                obtain ⟨k1, q1⟩ := ev_ok (k := hl.length) (b0 := false) hsp c _ e s (argsE_keys _ 0 _ (by omega)) he
                refine hcalls_pwp hm hf hc h1.1 hn (q1 _ ⟨s, rfl, k1, ?_⟩)
                have fin : ∃ p, resC P fn.results.toList s = some p ∧ cellW s.heap p v ∧ v.under s.heap.length = true ∧ heapW s.heap s.heap s.heap ∧ s.heap.all (PO.under s.heap.length) = true ∧ hl.length ≤ s.heap.length ∧ cntL s.heap = cntL s.heap :=
                  ⟨v, hr, cellW_refl _ _, h6, heapW_refl _ _, h5, Nat.le_of_ble_eq_true h4, rfl⟩
                cases e with
                | normal => exact fin
                | ret => exact fin
                | _ => cases h3
            · cases h
        · cases h
    · cases h
  · cases h

/-- What calls do, k calls deep. -/
noncomputable def evS (P : Program) (base : Spec) (N : Nat) : Nat → Spec
  | 0 => base
  | k + 1 => { base with
      p := fun f al => match base.p f al with | some r => some r | none => evP P (evS P base N k) N f al
      h := fun f al hl => match base.h f al hl with | some r => some r | none => evH P (evS P base N k) N f al hl }
theorem evS_ok (hm : P.follows .mixedOrders = true) {base : Spec} (hb : SpecOk P base) {N : Nat} : ∀ k, SpecOk P (evS P base N k)
  | 0 => hb
  | k + 1 => ⟨fun f al r h => by
      simp only [evS] at h
      split at h
      · rename_i r' h'; cases h; exact hb.1 _ _ _ h'
      · exact evP_ok hm (evS_ok hm hb k) h, fun f al hl v hl' h => by
      simp only [evS] at h
      split at h
      · rename_i r' h'; cases h; exact hb.2.1 _ _ _ _ _ h'
      · exact evH_ok hm (evS_ok hm hb k) h, fun Y f al hl v hl' h => by
      simp only [evS] at h; exact hb.2.2 _ _ _ _ _ _ h⟩

end Go.Pm

/- Part QmSh. -/
namespace Go.Pm
open Go Go.RowKit
open Classical in
noncomputable def oneP (a0 : List TV) (r0 : TV) : List TV → Option TV := fun a => if a = a0 then some r0 else none
theorem oneP_ok {P : Program} {f : FuncId} {a0 : List TV} {r0 : TV} (h : PCalls P f a0 r0) : ∀ a r, oneP a0 r0 a = some r → PCalls P f a r := by
  intro a r e
  unfold oneP at e
  split at e
  · rename_i hc; subst hc; cases e; exact h
  · cases e
open Classical in
@[go_sem] theorem oneP_eq (a0 : List TV) (r0 : TV) (a : List TV) : oneP a0 r0 a = if a = a0 then some r0 else none := rfl
open Classical in
noncomputable def oneHs (ps0 : List PV) (hl0 : List PO) (r : PV × List PO) : List PV → List PO → Option (PV × List PO) := fun ps hl => if ps = ps0 ∧ hl = hl0 then some r else none
theorem oneHs_ok {P : Program} {f : FuncId} {ps0 : List PV} {hl0 : List PO} {r : PV × List PO} (h : HCalls P f ps0 (getL hl0) r.1 (getL r.2)) : ∀ ps hl v hl', oneHs ps0 hl0 r ps hl = some (v, hl') → HCalls P f ps (getL hl) v (getL hl') := by
  intro ps hl v hl' e
  unfold oneHs at e
  split at e
  · rename_i hc; obtain ⟨rfl, rfl⟩ := hc; cases e; exact h
  · cases e
open Classical in
@[go_sem] theorem oneHs_eq (ps0 : List PV) (hl0 : List PO) (r : PV × List PO) (ps : List PV) (hl : List PO) : oneHs ps0 hl0 r ps hl = if ps = ps0 ∧ hl = hl0 then some r else none := rfl
open Classical in
noncomputable def manyP : List (List TV × TV) → List TV → Option TV
  | [], _ => none
  | p :: l, a => if a = p.1 then some p.2 else manyP l a
theorem manyP_ok {P : Program} {f : FuncId} : ∀ {l : List (List TV × TV)}, (∀ p ∈ l, PCalls P f p.1 p.2) → ∀ a r, manyP l a = some r → PCalls P f a r
  | [], _, a, r, e => by unfold manyP at e; cases e
  | p :: l, h, a, r, e => by
    unfold manyP at e
    split at e
    · rename_i hc; subst hc; cases e; exact h p List.mem_cons_self
    · exact manyP_ok (fun q hq => h q (List.mem_cons_of_mem _ hq)) a r e
theorem many2_ok {P : Program} {f : FuncId} {a0 a1 : List TV} {r0 r1 : TV} (h0 : PCalls P f a0 r0) (h1 : PCalls P f a1 r1) : ∀ a r, manyP [(a0, r0), (a1, r1)] a = some r → PCalls P f a r := manyP_ok fun p hp => by
  simp only [List.mem_cons, List.not_mem_nil, or_false] at hp
  rcases hp with rfl | rfl
  · exact h0
  · exact h1
@[go_sem] theorem manyP_nil (a : List TV) : manyP [] a = none := by unfold manyP; rfl
open Classical in
@[go_sem] theorem manyP_cons (a0 : List TV) (r0 : TV) (l : List (List TV × TV)) (a : List TV) : manyP ((a0, r0) :: l) a = if a = a0 then some r0 else manyP l a := by rw [manyP]
end Go.Pm

/- Part TGa. -/
namespace Go.Ow
open Go Go.RowKit Go.Pm Go.Oc Go.Oh Go.Oc.Ix
/-- A pitch in lowest terms. -/
def lowP (a b : Int) : Int × Int := (a / (Int.gcd a b : Int), b / (Int.gcd a b : Int))
theorem lowP_eq {a b c d : Int} (ha : 0 < a) (hb : 0 < b) (hc : 0 < c) (hd : 0 < d) : lowP a b = lowP c d ↔ a * d = b * c := by
  obtain ⟨a, rfl⟩ := Int.eq_ofNat_of_zero_le (show 0 ≤ a by omega)
  obtain ⟨b, rfl⟩ := Int.eq_ofNat_of_zero_le (show 0 ≤ b by omega)
  obtain ⟨c, rfl⟩ := Int.eq_ofNat_of_zero_le (show 0 ≤ c by omega)
  obtain ⟨d, rfl⟩ := Int.eq_ofNat_of_zero_le (show 0 ≤ d by omega)
  have ha : 0 < a := by omega
  have hb : 0 < b := by omega
  have hc : 0 < c := by omega
  have hd : 0 < d := by omega
  have g0 : 0 < Nat.gcd a b := Nat.gcd_pos_of_pos_left b ha
  have h0 : 0 < Nat.gcd c d := Nat.gcd_pos_of_pos_left d hc
  have e : lowP (a : Int) b = lowP (c : Int) d ↔ a / Nat.gcd a b = c / Nat.gcd c d ∧ b / Nat.gcd a b = d / Nat.gcd c d := by
    unfold lowP
    rw [Prod.mk.injEq]
    have q1 : Int.gcd (a : Int) b = Nat.gcd a b := rfl
    have q2 : Int.gcd (c : Int) d = Nat.gcd c d := rfl
    rw [q1, q2]
    constructor
    · rintro ⟨h1, h2⟩; exact ⟨by exact_mod_cast h1, by exact_mod_cast h2⟩
    · rintro ⟨h1, h2⟩; exact ⟨by exact_mod_cast h1, by exact_mod_cast h2⟩
  have e2 : (a : Int) * d = b * c ↔ a * d = b * c := by constructor <;> intro h <;> exact_mod_cast h
  rw [e, e2]
  obtain ⟨a', ha'⟩ := Nat.gcd_dvd_left a b
  obtain ⟨b', hb'⟩ := Nat.gcd_dvd_right a b
  obtain ⟨c', hc'⟩ := Nat.gcd_dvd_left c d
  obtain ⟨d', hd'⟩ := Nat.gcd_dvd_right c d
  have da : a / Nat.gcd a b = a' := Nat.div_eq_of_eq_mul_right g0 ha'
  have db : b / Nat.gcd a b = b' := Nat.div_eq_of_eq_mul_right g0 hb'
  have dc : c / Nat.gcd c d = c' := Nat.div_eq_of_eq_mul_right h0 hc'
  have dd : d / Nat.gcd c d = d' := Nat.div_eq_of_eq_mul_right h0 hd'
  have cp1 : Nat.Coprime a' b' := by have := Nat.coprime_div_gcd_div_gcd (m := a) (n := b) g0; rwa [da, db] at this
  have cp2 : Nat.Coprime c' d' := by have := Nat.coprime_div_gcd_div_gcd (m := c) (n := d) h0; rwa [dc, dd] at this
  rw [da, db, dc, dd]
  generalize Nat.gcd a b = g at *
  generalize Nat.gcd c d = h at *
  subst ha' hb' hc' hd'
  constructor
  · rintro ⟨rfl, rfl⟩
    rw [Nat.mul_assoc, Nat.mul_left_comm a', Nat.mul_assoc, Nat.mul_left_comm b', Nat.mul_comm a' b']
  · intro hm
    have k : a' * d' = b' * c' := by
      have : (g * h) * (a' * d') = (g * h) * (b' * c') := by
        calc (g * h) * (a' * d') = g * a' * (h * d') := by rw [Nat.mul_mul_mul_comm]
          _ = g * b' * (h * c') := hm
          _ = (g * h) * (b' * c') := by rw [Nat.mul_mul_mul_comm]
      exact Nat.eq_of_mul_eq_mul_left (Nat.mul_pos g0 h0) this
    have x1 : a' ∣ c' := cp1.dvd_of_dvd_mul_left ⟨d', k.symm⟩
    have x2 : c' ∣ a' := cp2.dvd_of_dvd_mul_right ⟨b', by rw [k, Nat.mul_comm]⟩
    have x3 : a' = c' := Nat.dvd_antisymm x1 x2
    subst x3
    have hp : 0 < a' := Nat.pos_of_ne_zero (fun e => by subst e; simp at ha)
    exact ⟨rfl, (Nat.eq_of_mul_eq_mul_left hp (by rw [k, Nat.mul_comm])).symm⟩
/-- Increasing. -/
def srt (W : List Int) : Prop := ∀ j, j + 1 < W.length → nthI W (j : Nat) ≤ nthI W ((j + 1 : Nat) : Int)
end Go.Ow
namespace Go.Proofs.YtlonlnfenbadbaaDoor
open Go.RowKit Go.Pm Go.Oc Go.Oh Go.Oc.Ix Go.Ow
set_option maxRecDepth 100000
set_option linter.unusedVariables false
set_option maxHeartbeats 8000000

theorem sWithin_c (n lo hi : Int) : PCalls Tryd.prog 112 [.int .i64 n, .int .i64 lo, .int .i64 hi] (.bool (inB n lo hi)) := by
  refine pcalls_by Tryd.mixes noSpec_ok (fn := Tryd.f112) Tryd.func112 rfl (by kernel_rfl) (by show 3 ≤ _; decide) ?_
  simp (decide := true) (maxSteps := 4000000) only [go_sem, Nat.reduceAdd, Nat.reduceSub, Nat.reduceMul, Nat.reduceDiv, Nat.reduceMod, Nat.reduceLT, Nat.reduceLeDiff, Nat.reduceEqDiff, Nat.reduceBEq, Nat.reduceBNe, Nat.reduceGT, Int.reduceAdd, Int.reduceSub, Int.reduceMul, Int.reduceNeg, Int.reduceLT, Int.reduceLE, Int.reduceEq, Int.reduceNe, Int.reduceBEq, Int.reduceBNe, Int.reduceToNat, Int.reduceGT, Int.reduceGE, ↓reduceIte, decide_true, decide_false, Tryd.f112, inB]
noncomputable def scWithin : List TV → Option TV
  | [.int .i64 n, .int .i64 lo, .int .i64 hi] => some (.bool (inB n lo hi))
  | _ => none
theorem scWithin_ok : ∀ xs r, scWithin xs = some r → PCalls Tryd.prog 112 xs r := by
  intro xs r h
  unfold scWithin at h
  split at h
  · cases h; exact sWithin_c _ _ _
  · cases h
attribute [go_sem] scWithin
theorem sNaN_c (a : Int) : PCalls Tryd.prog 175 [.int .i64 a] (.bool false) := by
  refine pcalls_by Tryd.mixes noSpec_ok (fn := Tryd.f175) Tryd.func175 rfl (by kernel_rfl) (by show 1 ≤ _; decide) ?_
  simp (decide := true) (maxSteps := 4000000) only [go_sem, Nat.reduceAdd, Nat.reduceSub, Nat.reduceMul, Nat.reduceDiv, Nat.reduceMod, Nat.reduceLT, Nat.reduceLeDiff, Nat.reduceEqDiff, Nat.reduceBEq, Nat.reduceBNe, Nat.reduceGT, Int.reduceAdd, Int.reduceSub, Int.reduceMul, Int.reduceNeg, Int.reduceLT, Int.reduceLE, Int.reduceEq, Int.reduceNe, Int.reduceBEq, Int.reduceBNe, Int.reduceToNat, Int.reduceGT, Int.reduceGE, ↓reduceIte, decide_true, decide_false, eq_self, Nat.mul_one, Nat.zero_mul, Nat.one_mul, Int.le_refl, Nat.le_refl, Int.cast_ofNat_Int, Tryd.f175]
  simp
noncomputable def scNaN : List TV → Option TV
  | [.int .i64 a] => some (.bool false)
  | _ => none
theorem scNaN_ok : ∀ xs r, scNaN xs = some r → PCalls Tryd.prog 175 xs r := by
  intro xs r h
  unfold scNaN at h
  split at h
  · cases h; exact sNaN_c _
  · cases h
attribute [go_sem] scNaN
noncomputable def spGn : Pm.Spec := noSpec.one 175 scNaN
@[go_sem] theorem spGn_p (f : FuncId) (xs : List TV) : spGn.p f xs = Pm.Spec.p (noSpec.one 175 scNaN) f xs := rfl
@[go_sem] theorem spGn_h (f : FuncId) (ps : List PV) (hl : List PO) : spGn.h f ps hl = Pm.Spec.h (noSpec.one 175 scNaN) f ps hl := rfl
@[go_sem] theorem spGn_y (Y : Pm.YS) (f : FuncId) (ps : List PV) (hl : List PO) : spGn.y Y f ps hl = Pm.Spec.y (noSpec.one 175 scNaN) Y f ps hl := rfl
@[go_sem] theorem spGn_fz (f : FuncId) : spGn.fz f = Pm.Spec.fz (noSpec.one 175 scNaN) f := rfl
@[go_sem] theorem spGn_fr (f : FuncId) : spGn.fr f = Pm.Spec.fr (noSpec.one 175 scNaN) f := rfl
@[go_sem] theorem spGn_yf (f : FuncId) : spGn.yf f = Pm.Spec.yf (noSpec.one 175 scNaN) f := rfl
@[go_sem] theorem spGn_gd : spGn.gd = Pm.Spec.gd (noSpec.one 175 scNaN) := rfl
@[go_sem] theorem spGn_mu (t : TypeId) : spGn.mu t = Pm.Spec.mu (noSpec.one 175 scNaN) t := rfl
@[go_sem] theorem spGn_nf (t : TypeId) : spGn.nf t = Pm.Spec.nf (noSpec.one 175 scNaN) t := rfl
theorem spGn_ok : SpecOk Tryd.prog spGn := Spec.one_ok scNaN_ok noSpec_ok
theorem sLess_c (a b : Int) : PCalls Tryd.prog 149 [.int .i64 a, .int .i64 b] (.bool (decide (a < b))) := by
  refine pcalls_by Tryd.mixes spGn_ok (fn := Tryd.f149) Tryd.func149 rfl (by kernel_rfl) (by show 2 ≤ _; decide) ?_
  simp (decide := true) (maxSteps := 4000000) only [go_sem, Nat.reduceAdd, Nat.reduceSub, Nat.reduceMul, Nat.reduceDiv, Nat.reduceMod, Nat.reduceLT, Nat.reduceLeDiff, Nat.reduceEqDiff, Nat.reduceBEq, Nat.reduceBNe, Nat.reduceGT, Int.reduceAdd, Int.reduceSub, Int.reduceMul, Int.reduceNeg, Int.reduceLT, Int.reduceLE, Int.reduceEq, Int.reduceNe, Int.reduceBEq, Int.reduceBNe, Int.reduceToNat, Int.reduceGT, Int.reduceGE, ↓reduceIte, decide_true, decide_false, eq_self, Nat.mul_one, Nat.zero_mul, Nat.one_mul, Int.le_refl, Nat.le_refl, Int.cast_ofNat_Int, Tryd.f149]
noncomputable def scLess : List TV → Option TV
  | [.int .i64 a, .int .i64 b] => some (.bool (decide (a < b)))
  | _ => none
theorem scLess_ok : ∀ xs r, scLess xs = some r → PCalls Tryd.prog 149 xs r := by
  intro xs r h
  unfold scLess at h
  split at h
  · cases h; exact sLess_c _ _
  · cases h
attribute [go_sem] scLess
noncomputable def spGl : Pm.Spec := (noSpec.one 149 scLess).one 112 scWithin
@[go_sem] theorem spGl_p (f : FuncId) (xs : List TV) : spGl.p f xs = Pm.Spec.p ((noSpec.one 149 scLess).one 112 scWithin) f xs := rfl
@[go_sem] theorem spGl_h (f : FuncId) (ps : List PV) (hl : List PO) : spGl.h f ps hl = Pm.Spec.h ((noSpec.one 149 scLess).one 112 scWithin) f ps hl := rfl
@[go_sem] theorem spGl_y (Y : Pm.YS) (f : FuncId) (ps : List PV) (hl : List PO) : spGl.y Y f ps hl = Pm.Spec.y ((noSpec.one 149 scLess).one 112 scWithin) Y f ps hl := rfl
@[go_sem] theorem spGl_fz (f : FuncId) : spGl.fz f = Pm.Spec.fz ((noSpec.one 149 scLess).one 112 scWithin) f := rfl
@[go_sem] theorem spGl_fr (f : FuncId) : spGl.fr f = Pm.Spec.fr ((noSpec.one 149 scLess).one 112 scWithin) f := rfl
@[go_sem] theorem spGl_yf (f : FuncId) : spGl.yf f = Pm.Spec.yf ((noSpec.one 149 scLess).one 112 scWithin) f := rfl
@[go_sem] theorem spGl_gd : spGl.gd = Pm.Spec.gd ((noSpec.one 149 scLess).one 112 scWithin) := rfl
@[go_sem] theorem spGl_mu (t : TypeId) : spGl.mu t = Pm.Spec.mu ((noSpec.one 149 scLess).one 112 scWithin) t := rfl
@[go_sem] theorem spGl_nf (t : TypeId) : spGl.nf t = Pm.Spec.nf ((noSpec.one 149 scLess).one 112 scWithin) t := rfl
theorem spGl_ok : SpecOk Tryd.prog spGl := Spec.one_ok scWithin_ok (Spec.one_ok scLess_ok noSpec_ok)
theorem sSorted_c {W : List Int} (f : Bool) (hs : srt W) (hl : W.length ≤ 17592186044415) : PCalls Tryd.prog 113 [.sl (ints W) W.length f] (.bool true) := by
  refine pcalls_by Tryd.mixes spGl_ok (fn := Tryd.f113) Tryd.func113 rfl (by kernel_rfl) (by show 1 ≤ _; decide) ?_
  have hw : IntKind.i64.wrap ((W.length : Int) - 1) = (W.length : Int) - 1 := wrap_in (by omega) (by omega)
  simp (decide := true) (maxSteps := 4000000) only [go_sem, Nat.reduceAdd, Nat.reduceSub, Nat.reduceMul, Nat.reduceDiv, Nat.reduceMod, Nat.reduceLT, Nat.reduceLeDiff, Nat.reduceEqDiff, Nat.reduceBEq, Nat.reduceBNe, Nat.reduceGT, Int.reduceAdd, Int.reduceSub, Int.reduceMul, Int.reduceNeg, Int.reduceLT, Int.reduceLE, Int.reduceEq, Int.reduceNe, Int.reduceBEq, Int.reduceBNe, Int.reduceToNat, Int.reduceGT, Int.reduceGE, ↓reduceIte, decide_true, decide_false, eq_self, Nat.mul_one, Nat.zero_mul, Nat.one_mul, Int.le_refl, Nat.le_refl, Int.cast_ofNat_Int, Tryd.f113, hw]
  refine pwpC_loopU (A := { k : Nat // k ≤ W.length }) [0] (fun k => [(3, .t (.int .i64 ((k.1 : Int) - 1)))]) (fun _ => []) (fun k => k.1) ⟨W.length, by omega⟩ (by decide) (fun _ => by rfl) ?_ fun Q1 hQ1 ⟨k, hk⟩ I1 hI1 => ?_
  · simp (decide := true) (maxSteps := 4000000) only [go_sem, Nat.reduceAdd, Nat.reduceSub, Nat.reduceMul, Nat.reduceDiv, Nat.reduceMod, Nat.reduceLT, Nat.reduceLeDiff, Nat.reduceEqDiff, Nat.reduceBEq, Nat.reduceBNe, Nat.reduceGT, Int.reduceAdd, Int.reduceSub, Int.reduceMul, Int.reduceNeg, Int.reduceLT, Int.reduceLE, Int.reduceEq, Int.reduceNe, Int.reduceBEq, Int.reduceBNe, Int.reduceToNat, Int.reduceGT, Int.reduceGE, ↓reduceIte, decide_true, decide_false, eq_self, Nat.mul_one, Nat.zero_mul, Nat.one_mul, Int.le_refl, Nat.le_refl, Int.cast_ofNat_Int]
    first | done | trace_state
  · by_cases hlt : (k : Int) - 1 > 0
    · obtain ⟨j, rfl⟩ : ∃ j, k = j + 2 := ⟨k - 2, by omega⟩
      obtain ⟨x, hx⟩ : ∃ x, W[j + 1]? = some x := ⟨_, List.getElem?_eq_getElem (by omega)⟩
      obtain ⟨y, hy⟩ : ∃ y, W[j]? = some y := ⟨_, List.getElem?_eq_getElem (by omega)⟩
      have d1 := ints_at hx
      have d2 := ints_at hy
      rw [Nat.mul_one] at d1 d2
      have e1 : ((j + 2 : Nat) : Int) - 1 = ((j + 1 : Nat) : Int) := by omega
      have e2 : IntKind.i64.wrap (((j + 1 : Nat) : Int) - 1) = (j : Int) := by rw [wrap_in (by omega) (by omega)]; omega
      have l1 : ((j + 1 : Nat) : Int) < W.length := by omega
      have l2 : (j : Int) < W.length := by omega
      have hxy := hs j (by omega)
      rw [nthI_at hx, nthI_at hy] at hxy
      have hn : ¬ x < y := by omega
      have hg : ((j + 1 : Nat) : Int) > 0 := by omega
      simp (decide := true) (maxSteps := 4000000) only [go_sem, Nat.reduceAdd, Nat.reduceSub, Nat.reduceMul, Nat.reduceDiv, Nat.reduceMod, Nat.reduceLT, Nat.reduceLeDiff, Nat.reduceEqDiff, Nat.reduceBEq, Nat.reduceBNe, Nat.reduceGT, Int.reduceAdd, Int.reduceSub, Int.reduceMul, Int.reduceNeg, Int.reduceLT, Int.reduceLE, Int.reduceEq, Int.reduceNe, Int.reduceBEq, Int.reduceBNe, Int.reduceToNat, Int.reduceGT, Int.reduceGE, ↓reduceIte, decide_true, decide_false, eq_self, Nat.mul_one, Nat.zero_mul, Nat.one_mul, Int.le_refl, Nat.le_refl, Int.cast_ofNat_Int, e1, hg, l1, l2, e2, d1, d2, hn]
      refine hI1 _ ⟨j + 1, by omega⟩ (by simp only; omega) ?_
      have e3 : ((j + 1 : Nat) : Int) - 1 = (j : Int) := by omega
      simp (decide := true) (maxSteps := 4000000) only [go_sem, Nat.reduceAdd, Nat.reduceSub, Nat.reduceMul, Nat.reduceDiv, Nat.reduceMod, Nat.reduceLT, Nat.reduceLeDiff, Nat.reduceEqDiff, Nat.reduceBEq, Nat.reduceBNe, Nat.reduceGT, Int.reduceAdd, Int.reduceSub, Int.reduceMul, Int.reduceNeg, Int.reduceLT, Int.reduceLE, Int.reduceEq, Int.reduceNe, Int.reduceBEq, Int.reduceBNe, Int.reduceToNat, Int.reduceGT, Int.reduceGE, ↓reduceIte, decide_true, decide_false, eq_self, Nat.mul_one, Nat.zero_mul, Nat.one_mul, Int.le_refl, Nat.le_refl, Int.cast_ofNat_Int, e2, e3]
      first | done | trace_state
    · simp (decide := true) (maxSteps := 4000000) only [go_sem, Nat.reduceAdd, Nat.reduceSub, Nat.reduceMul, Nat.reduceDiv, Nat.reduceMod, Nat.reduceLT, Nat.reduceLeDiff, Nat.reduceEqDiff, Nat.reduceBEq, Nat.reduceBNe, Nat.reduceGT, Int.reduceAdd, Int.reduceSub, Int.reduceMul, Int.reduceNeg, Int.reduceLT, Int.reduceLE, Int.reduceEq, Int.reduceNe, Int.reduceBEq, Int.reduceBNe, Int.reduceToNat, Int.reduceGT, Int.reduceGE, ↓reduceIte, decide_true, decide_false, eq_self, Nat.mul_one, Nat.zero_mul, Nat.one_mul, Int.le_refl, Nat.le_refl, Int.cast_ofNat_Int, hlt]
      refine hQ1 _ _ ?_
      simp (decide := true) (maxSteps := 4000000) only [go_sem, Nat.reduceAdd, Nat.reduceSub, Nat.reduceMul, Nat.reduceDiv, Nat.reduceMod, Nat.reduceLT, Nat.reduceLeDiff, Nat.reduceEqDiff, Nat.reduceBEq, Nat.reduceBNe, Nat.reduceGT, Int.reduceAdd, Int.reduceSub, Int.reduceMul, Int.reduceNeg, Int.reduceLT, Int.reduceLE, Int.reduceEq, Int.reduceNe, Int.reduceBEq, Int.reduceBNe, Int.reduceToNat, Int.reduceGT, Int.reduceGE, ↓reduceIte, decide_true, decide_false, eq_self, Nat.mul_one, Nat.zero_mul, Nat.one_mul, Int.le_refl, Nat.le_refl, Int.cast_ofNat_Int]
      first | done | trace_state
theorem sLowest_c (a b : Int) (ha : 0 < a ∧ a ≤ 1000000000000) (hb : 0 < b ∧ b ≤ 1000000000000) : PCalls Tryd.prog 65 [.agg [.int .i64 a, .int .i64 b]] (.agg [.int .i64 (lowP a b).1, .int .i64 (lowP a b).2]) := by
  refine pcalls_by Tryd.mixes noSpec_ok (fn := Tryd.f65) Tryd.func65 rfl (by kernel_rfl) (by show 1 ≤ _; decide) ?_
  simp (decide := true) (maxSteps := 4000000) only [go_sem, Nat.reduceAdd, Nat.reduceSub, Nat.reduceMul, Nat.reduceDiv, Nat.reduceMod, Nat.reduceLT, Nat.reduceLeDiff, Nat.reduceEqDiff, Nat.reduceBEq, Nat.reduceBNe, Nat.reduceGT, Int.reduceAdd, Int.reduceSub, Int.reduceMul, Int.reduceNeg, Int.reduceLT, Int.reduceLE, Int.reduceEq, Int.reduceNe, Int.reduceBEq, Int.reduceBNe, Int.reduceToNat, Int.reduceGT, Int.reduceGE, ↓reduceIte, decide_true, decide_false, eq_self, Nat.mul_one, Nat.zero_mul, Nat.one_mul, Int.le_refl, Nat.le_refl, Int.cast_ofNat_Int, Tryd.f65]
  refine pwpC_loopU (A := { x : Int × Int // 0 < x.1 ∧ x.1 ≤ 1000000000000 ∧ 0 ≤ x.2 ∧ x.2 ≤ 1000000000000 ∧ Int.gcd x.1 x.2 = Int.gcd a b }) [1, 2] (fun x => [(3, .t (.int .i64 x.1.1)), (4, .t (.int .i64 x.1.2))]) (fun _ => []) (fun x => x.1.2.toNat) ⟨(a, b), ha.1, ha.2, by omega, hb.2, rfl⟩ (by decide) (fun _ => by rfl) ?_ fun Q1 hQ1 ⟨⟨x, y⟩, hx1, hx2, hy1, hy2, hg⟩ I1 hI1 => ?_
  · simp (decide := true) (maxSteps := 4000000) only [go_sem, Nat.reduceAdd, Nat.reduceSub, Nat.reduceMul, Nat.reduceDiv, Nat.reduceMod, Nat.reduceLT, Nat.reduceLeDiff, Nat.reduceEqDiff, Nat.reduceBEq, Nat.reduceBNe, Nat.reduceGT, Int.reduceAdd, Int.reduceSub, Int.reduceMul, Int.reduceNeg, Int.reduceLT, Int.reduceLE, Int.reduceEq, Int.reduceNe, Int.reduceBEq, Int.reduceBNe, Int.reduceToNat, Int.reduceGT, Int.reduceGE, ↓reduceIte, decide_true, decide_false, eq_self, Nat.mul_one, Nat.zero_mul, Nat.one_mul, Int.le_refl, Nat.le_refl, Int.cast_ofNat_Int]
    first | done | trace_state
  · simp only at hx1 hx2 hy1 hy2 hg
    by_cases hlt : y > 0
    · have hne : ¬ y = 0 := by omega
      have hm : x.tmod y = x % y := Int.tmod_eq_emod_of_nonneg (by omega)
      have m1 := Int.emod_nonneg x hne
      have m2 := Int.emod_lt_of_pos x hlt
      have m3 : x % y ≤ x := by have := Int.mul_ediv_add_emod x y; have h0 := Int.mul_nonneg (show 0 ≤ y by omega) (Int.ediv_nonneg (show 0 ≤ x by omega) (show 0 ≤ y by omega)); omega
      simp (decide := true) (maxSteps := 4000000) only [go_sem, Nat.reduceAdd, Nat.reduceSub, Nat.reduceMul, Nat.reduceDiv, Nat.reduceMod, Nat.reduceLT, Nat.reduceLeDiff, Nat.reduceEqDiff, Nat.reduceBEq, Nat.reduceBNe, Nat.reduceGT, Int.reduceAdd, Int.reduceSub, Int.reduceMul, Int.reduceNeg, Int.reduceLT, Int.reduceLE, Int.reduceEq, Int.reduceNe, Int.reduceBEq, Int.reduceBNe, Int.reduceToNat, Int.reduceGT, Int.reduceGE, ↓reduceIte, decide_true, decide_false, eq_self, Nat.mul_one, Nat.zero_mul, Nat.one_mul, Int.le_refl, Nat.le_refl, Int.cast_ofNat_Int, hlt, hne, hm]
      refine hI1 _ ⟨(y, x % y), by simp only; omega, by simp only; omega, by simp only; omega, by simp only; omega, ?_⟩ (by simp only; omega) ?_
      · simp only
        rw [← hg]
        obtain ⟨x, rfl⟩ := Int.eq_ofNat_of_zero_le (show 0 ≤ x by omega)
        obtain ⟨y, rfl⟩ := Int.eq_ofNat_of_zero_le (show 0 ≤ y by omega)
        show Nat.gcd y (x % y) = Nat.gcd x y
        rw [Nat.gcd_comm x y, Nat.gcd_rec y x, Nat.gcd_comm]
      · simp (decide := true) (maxSteps := 4000000) only [go_sem, Nat.reduceAdd, Nat.reduceSub, Nat.reduceMul, Nat.reduceDiv, Nat.reduceMod, Nat.reduceLT, Nat.reduceLeDiff, Nat.reduceEqDiff, Nat.reduceBEq, Nat.reduceBNe, Nat.reduceGT, Int.reduceAdd, Int.reduceSub, Int.reduceMul, Int.reduceNeg, Int.reduceLT, Int.reduceLE, Int.reduceEq, Int.reduceNe, Int.reduceBEq, Int.reduceBNe, Int.reduceToNat, Int.reduceGT, Int.reduceGE, ↓reduceIte, decide_true, decide_false, eq_self, Nat.mul_one, Nat.zero_mul, Nat.one_mul, Int.le_refl, Nat.le_refl, Int.cast_ofNat_Int]
        first | done | trace_state
    · have hy0 : y = 0 := by omega
      subst hy0
      have hgx : (Int.gcd a b : Int) = x := by rw [← hg, Int.gcd_zero_right]; omega
      have hne : ¬ x = 0 := by omega
      have q1 : a.tdiv x = a / x := Int.tdiv_eq_ediv_of_nonneg (by omega)
      have q2 : b.tdiv x = b / x := Int.tdiv_eq_ediv_of_nonneg (by omega)
      have n1 := Int.ediv_nonneg (show 0 ≤ a by omega) (show 0 ≤ x by omega)
      have n2 := Int.ediv_nonneg (show 0 ≤ b by omega) (show 0 ≤ x by omega)
      have u1 := Int.ediv_le_self x (show 0 ≤ a by omega)
      have u2 := Int.ediv_le_self x (show 0 ≤ b by omega)
      have w1 : IntKind.i64.wrap (a / x) = a / x := wrap_in (by omega) (by omega)
      have w2 : IntKind.i64.wrap (b / x) = b / x := wrap_in (by omega) (by omega)
      simp (decide := true) (maxSteps := 4000000) only [go_sem, Nat.reduceAdd, Nat.reduceSub, Nat.reduceMul, Nat.reduceDiv, Nat.reduceMod, Nat.reduceLT, Nat.reduceLeDiff, Nat.reduceEqDiff, Nat.reduceBEq, Nat.reduceBNe, Nat.reduceGT, Int.reduceAdd, Int.reduceSub, Int.reduceMul, Int.reduceNeg, Int.reduceLT, Int.reduceLE, Int.reduceEq, Int.reduceNe, Int.reduceBEq, Int.reduceBNe, Int.reduceToNat, Int.reduceGT, Int.reduceGE, ↓reduceIte, decide_true, decide_false, eq_self, Nat.mul_one, Nat.zero_mul, Nat.one_mul, Int.le_refl, Nat.le_refl, Int.cast_ofNat_Int, hlt]
      refine hQ1 _ _ ?_
      simp (decide := true) (maxSteps := 4000000) only [go_sem, Nat.reduceAdd, Nat.reduceSub, Nat.reduceMul, Nat.reduceDiv, Nat.reduceMod, Nat.reduceLT, Nat.reduceLeDiff, Nat.reduceEqDiff, Nat.reduceBEq, Nat.reduceBNe, Nat.reduceGT, Int.reduceAdd, Int.reduceSub, Int.reduceMul, Int.reduceNeg, Int.reduceLT, Int.reduceLE, Int.reduceEq, Int.reduceNe, Int.reduceBEq, Int.reduceBNe, Int.reduceToNat, Int.reduceGT, Int.reduceGE, ↓reduceIte, decide_true, decide_false, eq_self, Nat.mul_one, Nat.zero_mul, Nat.one_mul, Int.le_refl, Nat.le_refl, Int.cast_ofNat_Int, hne, q1, q2, w1, w2, lowP, hgx]
      first | done | trace_state
end Go.Proofs.YtlonlnfenbadbaaDoor

/- Part TGb. -/
namespace Go.Ow
open Go Go.RowKit Go.Pm Go.Oc Go.Oh Go.Oc.Ix
/-- All lists of d wheels of n behind l, in their order. -/
def dfs (n : Nat) : Nat → List Int → List (List Int)
  | 0, l => [l]
  | d + 1, l => (List.range n).flatMap fun i : Nat => if l.contains (i : Int) then [] else dfs n d (l ++ [(i : Int)])
theorem find_flatMap {α β : Type} (p : β → Bool) (f : α → List β) : ∀ l : List α, (l.flatMap f).find? p = l.findSome? fun a => (f a).find? p
  | [] => rfl
  | a :: l => by
    rw [List.flatMap_cons, List.find?_append, List.findSome?_cons, find_flatMap p f l]
    cases (f a).find? p <;> rfl
theorem srch_dfs (st : List Int) (p q : Int) : ∀ (d : Nat) (l : List Int), srch st p q d l = (dfs st.length d l).find? (fitsL st p q)
  | 0, l => by unfold srch dfs; cases h : fitsL st p q l <;> simp [h]
  | d + 1, l => by
    unfold srch dfs
    rw [find_flatMap]
    congr 1
    funext i
    split
    · rfl
    · exact srch_dfs st p q d _
/-- .. as far as the wheels before k. -/
def dfsTo (n : Nat) (d : Nat) (l : List Int) (k : Nat) : List (List Int) := (List.range k).flatMap fun i : Nat => if l.contains (i : Int) then [] else dfs n d (l ++ [(i : Int)])
theorem dfsTo_succ (n d : Nat) (l : List Int) (k : Nat) : dfsTo n d l (k + 1) = dfsTo n d l k ++ (if l.contains (k : Int) then [] else dfs n d (l ++ [(k : Int)])) := by
  unfold dfsTo; rw [List.range_succ, List.flatMap_append]; simp
theorem dfsTo_all (n d : Nat) (l : List Int) : dfsTo n d l n = dfs n (d + 1) l := rfl
/-- Lists of different wheels. -/
def gOk (n m : Nat) (g : List Int) : Prop := g.length = m ∧ g.Nodup ∧ ∀ x ∈ g, 0 ≤ x ∧ x < n
theorem dfs_ok (n : Nat) : ∀ (d : Nat) (l : List Int) (m : Nat), gOk n m l → ∀ g ∈ dfs n d l, gOk n (m + d) g
  | 0, l, m, h, g, hg => by
    unfold dfs at hg
    rw [List.mem_singleton] at hg; subst hg; exact h
  | d + 1, l, m, h, g, hg => by
    unfold dfs at hg
    obtain ⟨i, hi, hg⟩ := List.mem_flatMap.1 hg
    have hi := List.mem_range.1 hi
    split at hg
    · cases hg
    · rename_i hc
      have hc : (i : Int) ∉ l := fun e => hc (List.contains_iff_mem.2 e)
      have := dfs_ok n d (l ++ [(i : Int)]) (m + 1) ⟨by simp [h.1], by rw [List.nodup_append]; exact ⟨h.2.1, by simp, fun a ha b hb => by rw [List.mem_singleton] at hb; subst hb; intro e; subst e; exact hc ha⟩, fun x hx => by
        rcases List.mem_append.1 hx with hx | hx
        · exact h.2.2 x hx
        · rw [List.mem_singleton] at hx; subst hx; omega⟩ g hg
      rwa [Nat.add_assoc, Nat.add_comm 1 d] at this
/-- All gears. -/
def gearsL (n : Nat) : List (List Int) := dfs n 2 [] ++ dfs n 4 []
/-- A list, as the program has it. -/
def gT (l : List Int) : TV := if l.length = 0 then .nilSl else .sl (ints l) l.length false
end Go.Ow
namespace Go.Proofs.YtlonlnfenbadbaaDoor
open Go.RowKit Go.Pm Go.Oc Go.Oh Go.Ow
set_option maxRecDepth 100000
set_option linter.unusedVariables false
set_option maxHeartbeats 8000000

theorem unIs (l : List Int) : unI (ints l) = some l := unI_eq l
def fIdx (v : Int) : Nat → List Int → Int
  | _, [] => -1
  | k, x :: l => if v = x then (k : Int) else fIdx v (k + 1) l
theorem fIdx_cons (v : Int) (k : Nat) (x : Int) (l : List Int) : fIdx v k (x :: l) = if v = x then (k : Int) else fIdx v (k + 1) l := rfl
theorem fIdx_nil (v : Int) (k : Nat) : fIdx v k [] = -1 := rfl
theorem fIdx_in (v : Int) : ∀ (l : List Int) (k : Nat), (fIdx v k l ≥ 0) ↔ v ∈ l
  | [], k => by simp [fIdx]
  | x :: l, k => by
    unfold fIdx
    by_cases h : v = x
    · rw [if_pos h]; simp [h]
    · rw [if_neg h, fIdx_in v l (k + 1)]; simp [h]
theorem sIndex_c {l : List Int} (f : Bool) (hl : l.length ≤ 1000000) (v : Int) : PCalls Tryd.prog 150 [.sl (ints l) l.length f, .int .i64 v] (.int .i64 (fIdx v 0 l)) := by
  refine pcalls_by Tryd.mixes noSpec_ok (fn := Tryd.f150) Tryd.func150 rfl (by kernel_rfl) (by show 2 ≤ _; decide) ?_
  simp (decide := true) (maxSteps := 4000000) only [go_sem, Nat.reduceAdd, Nat.reduceSub, Nat.reduceMul, Nat.reduceDiv, Nat.reduceMod, Nat.reduceLT, Nat.reduceLeDiff, Nat.reduceEqDiff, Nat.reduceBEq, Nat.reduceBNe, Nat.reduceGT, Int.reduceAdd, Int.reduceSub, Int.reduceMul, Int.reduceNeg, Int.reduceLT, Int.reduceLE, Int.reduceEq, Int.reduceNe, Int.reduceBEq, Int.reduceBNe, Int.reduceToNat, Int.reduceGT, Int.reduceGE, ↓reduceIte, decide_true, decide_false, eq_self, Nat.mul_one, Nat.zero_mul, Nat.one_mul, Int.le_refl, Nat.le_refl, Int.cast_ofNat_Int, Tryd.f150]
  refine pwpC_loopU (A := { k : Nat // k ≤ l.length ∧ fIdx v k (l.drop k) = fIdx v 0 l }) [0, 1, 7] (fun k => [(8, .t (.int .i64 k.1))]) (fun _ => []) (fun k => l.length - k.1) ⟨0, by omega, by rw [List.drop_zero]⟩ (by decide) (fun _ => by rfl) ?_ fun Q1 hQ1 ⟨k, hk, he⟩ I1 hI1 => ?_
  · simp (decide := true) (maxSteps := 4000000) only [go_sem, Nat.reduceAdd, Nat.reduceSub, Nat.reduceMul, Nat.reduceDiv, Nat.reduceMod, Nat.reduceLT, Nat.reduceLeDiff, Nat.reduceEqDiff, Nat.reduceBEq, Nat.reduceBNe, Nat.reduceGT, Int.reduceAdd, Int.reduceSub, Int.reduceMul, Int.reduceNeg, Int.reduceLT, Int.reduceLE, Int.reduceEq, Int.reduceNe, Int.reduceBEq, Int.reduceBNe, Int.reduceToNat, Int.reduceGT, Int.reduceGE, ↓reduceIte, decide_true, decide_false, eq_self, Nat.mul_one, Nat.zero_mul, Nat.one_mul, Int.le_refl, Nat.le_refl, Int.cast_ofNat_Int]
  · by_cases hlt : (k : Int) < l.length
    · obtain ⟨x, hx⟩ : ∃ x, l[k]? = some x := ⟨_, List.getElem?_eq_getElem (by omega)⟩
      have d1 := ints_at hx
      rw [Nat.mul_one] at d1
      have hdk : l.drop k = x :: l.drop (k + 1) := by rw [List.drop_eq_getElem_cons (by omega)]; rw [List.getElem?_eq_getElem (by omega)] at hx; cases hx; rfl
      have hw : IntKind.i64.wrap ((k : Int) + 1) = ((k + 1 : Nat) : Int) := by rw [wrap_in (by omega) (by omega)]; omega
      rw [hdk, fIdx_cons] at he
      by_cases hxv : v = x
      · rw [if_pos hxv] at he
        have hb : (v == x) = true := beq_int_t hxv
        simp (decide := true) (maxSteps := 4000000) only [go_sem, Nat.reduceAdd, Nat.reduceSub, Nat.reduceMul, Nat.reduceDiv, Nat.reduceMod, Nat.reduceLT, Nat.reduceLeDiff, Nat.reduceEqDiff, Nat.reduceBEq, Nat.reduceBNe, Nat.reduceGT, Int.reduceAdd, Int.reduceSub, Int.reduceMul, Int.reduceNeg, Int.reduceLT, Int.reduceLE, Int.reduceEq, Int.reduceNe, Int.reduceBEq, Int.reduceBNe, Int.reduceToNat, Int.reduceGT, Int.reduceGE, ↓reduceIte, decide_true, decide_false, eq_self, Nat.mul_one, Nat.zero_mul, Nat.one_mul, Int.le_refl, Nat.le_refl, Int.cast_ofNat_Int, hlt, d1, hb]
        refine hQ1 _ _ ?_
        simp (decide := true) (maxSteps := 4000000) only [go_sem, Nat.reduceAdd, Nat.reduceSub, Nat.reduceMul, Nat.reduceDiv, Nat.reduceMod, Nat.reduceLT, Nat.reduceLeDiff, Nat.reduceEqDiff, Nat.reduceBEq, Nat.reduceBNe, Nat.reduceGT, Int.reduceAdd, Int.reduceSub, Int.reduceMul, Int.reduceNeg, Int.reduceLT, Int.reduceLE, Int.reduceEq, Int.reduceNe, Int.reduceBEq, Int.reduceBNe, Int.reduceToNat, Int.reduceGT, Int.reduceGE, ↓reduceIte, decide_true, decide_false, eq_self, Nat.mul_one, Nat.zero_mul, Nat.one_mul, Int.le_refl, Nat.le_refl, Int.cast_ofNat_Int, ← he]
        first | done | trace_state
      · rw [if_neg hxv] at he
        have hb : (v == x) = false := beq_int_f hxv
        simp (decide := true) (maxSteps := 4000000) only [go_sem, Nat.reduceAdd, Nat.reduceSub, Nat.reduceMul, Nat.reduceDiv, Nat.reduceMod, Nat.reduceLT, Nat.reduceLeDiff, Nat.reduceEqDiff, Nat.reduceBEq, Nat.reduceBNe, Nat.reduceGT, Int.reduceAdd, Int.reduceSub, Int.reduceMul, Int.reduceNeg, Int.reduceLT, Int.reduceLE, Int.reduceEq, Int.reduceNe, Int.reduceBEq, Int.reduceBNe, Int.reduceToNat, Int.reduceGT, Int.reduceGE, ↓reduceIte, decide_true, decide_false, eq_self, Nat.mul_one, Nat.zero_mul, Nat.one_mul, Int.le_refl, Nat.le_refl, Int.cast_ofNat_Int, hlt, d1, hb]
        refine hI1 _ ⟨k + 1, by omega, he⟩ (by simp only; omega) ?_
        simp (decide := true) (maxSteps := 4000000) only [go_sem, Nat.reduceAdd, Nat.reduceSub, Nat.reduceMul, Nat.reduceDiv, Nat.reduceMod, Nat.reduceLT, Nat.reduceLeDiff, Nat.reduceEqDiff, Nat.reduceBEq, Nat.reduceBNe, Nat.reduceGT, Int.reduceAdd, Int.reduceSub, Int.reduceMul, Int.reduceNeg, Int.reduceLT, Int.reduceLE, Int.reduceEq, Int.reduceNe, Int.reduceBEq, Int.reduceBNe, Int.reduceToNat, Int.reduceGT, Int.reduceGE, ↓reduceIte, decide_true, decide_false, eq_self, Nat.mul_one, Nat.zero_mul, Nat.one_mul, Int.le_refl, Nat.le_refl, Int.cast_ofNat_Int, hw]
    · have hkl : k = l.length := by omega
      subst hkl
      rw [List.drop_length, fIdx_nil] at he
      simp (decide := true) (maxSteps := 4000000) only [go_sem, Nat.reduceAdd, Nat.reduceSub, Nat.reduceMul, Nat.reduceDiv, Nat.reduceMod, Nat.reduceLT, Nat.reduceLeDiff, Nat.reduceEqDiff, Nat.reduceBEq, Nat.reduceBNe, Nat.reduceGT, Int.reduceAdd, Int.reduceSub, Int.reduceMul, Int.reduceNeg, Int.reduceLT, Int.reduceLE, Int.reduceEq, Int.reduceNe, Int.reduceBEq, Int.reduceBNe, Int.reduceToNat, Int.reduceGT, Int.reduceGE, ↓reduceIte, decide_true, decide_false, eq_self, Nat.mul_one, Nat.zero_mul, Nat.one_mul, Int.le_refl, Nat.le_refl, Int.cast_ofNat_Int, hlt]
      refine hQ1 _ _ ?_
      simp (decide := true) (maxSteps := 4000000) only [go_sem, Nat.reduceAdd, Nat.reduceSub, Nat.reduceMul, Nat.reduceDiv, Nat.reduceMod, Nat.reduceLT, Nat.reduceLeDiff, Nat.reduceEqDiff, Nat.reduceBEq, Nat.reduceBNe, Nat.reduceGT, Int.reduceAdd, Int.reduceSub, Int.reduceMul, Int.reduceNeg, Int.reduceLT, Int.reduceLE, Int.reduceEq, Int.reduceNe, Int.reduceBEq, Int.reduceBNe, Int.reduceToNat, Int.reduceGT, Int.reduceGE, ↓reduceIte, decide_true, decide_false, eq_self, Nat.mul_one, Nat.zero_mul, Nat.one_mul, Int.le_refl, Nat.le_refl, Int.cast_ofNat_Int, ← he]
      first | done | trace_state
theorem sIndexNil_c (v : Int) : PCalls Tryd.prog 150 [.nilSl, .int .i64 v] (.int .i64 (-1)) := by
  refine pcalls_by Tryd.mixes noSpec_ok (fn := Tryd.f150) Tryd.func150 rfl (by kernel_rfl) (by show 2 ≤ _; decide) ?_
  simp (decide := true) (maxSteps := 4000000) only [go_sem, Nat.reduceAdd, Nat.reduceSub, Nat.reduceMul, Nat.reduceDiv, Nat.reduceMod, Nat.reduceLT, Nat.reduceLeDiff, Nat.reduceEqDiff, Nat.reduceBEq, Nat.reduceBNe, Nat.reduceGT, Int.reduceAdd, Int.reduceSub, Int.reduceMul, Int.reduceNeg, Int.reduceLT, Int.reduceLE, Int.reduceEq, Int.reduceNe, Int.reduceBEq, Int.reduceBNe, Int.reduceToNat, Int.reduceGT, Int.reduceGE, ↓reduceIte, decide_true, decide_false, eq_self, Nat.mul_one, Nat.zero_mul, Nat.one_mul, Int.le_refl, Nat.le_refl, Int.cast_ofNat_Int, Tryd.f150]
  refine pwpC_loopU (A := Unit) [0, 1, 7] (fun k => [(8, .t (.int .i64 0))]) (fun _ => []) (fun k => 0) () (by decide) (fun _ => by rfl) ?_ fun Q1 hQ1 _ I1 hI1 => ?_
  · simp (decide := true) (maxSteps := 4000000) only [go_sem, Nat.reduceAdd, Nat.reduceSub, Nat.reduceMul, Nat.reduceDiv, Nat.reduceMod, Nat.reduceLT, Nat.reduceLeDiff, Nat.reduceEqDiff, Nat.reduceBEq, Nat.reduceBNe, Nat.reduceGT, Int.reduceAdd, Int.reduceSub, Int.reduceMul, Int.reduceNeg, Int.reduceLT, Int.reduceLE, Int.reduceEq, Int.reduceNe, Int.reduceBEq, Int.reduceBNe, Int.reduceToNat, Int.reduceGT, Int.reduceGE, ↓reduceIte, decide_true, decide_false, eq_self, Nat.mul_one, Nat.zero_mul, Nat.one_mul, Int.le_refl, Nat.le_refl, Int.cast_ofNat_Int]
  · simp (decide := true) (maxSteps := 4000000) only [go_sem, Nat.reduceAdd, Nat.reduceSub, Nat.reduceMul, Nat.reduceDiv, Nat.reduceMod, Nat.reduceLT, Nat.reduceLeDiff, Nat.reduceEqDiff, Nat.reduceBEq, Nat.reduceBNe, Nat.reduceGT, Int.reduceAdd, Int.reduceSub, Int.reduceMul, Int.reduceNeg, Int.reduceLT, Int.reduceLE, Int.reduceEq, Int.reduceNe, Int.reduceBEq, Int.reduceBNe, Int.reduceToNat, Int.reduceGT, Int.reduceGE, ↓reduceIte, decide_true, decide_false, eq_self, Nat.mul_one, Nat.zero_mul, Nat.one_mul, Int.le_refl, Nat.le_refl, Int.cast_ofNat_Int]
    refine hQ1 _ _ ?_
    simp (decide := true) (maxSteps := 4000000) only [go_sem, Nat.reduceAdd, Nat.reduceSub, Nat.reduceMul, Nat.reduceDiv, Nat.reduceMod, Nat.reduceLT, Nat.reduceLeDiff, Nat.reduceEqDiff, Nat.reduceBEq, Nat.reduceBNe, Nat.reduceGT, Int.reduceAdd, Int.reduceSub, Int.reduceMul, Int.reduceNeg, Int.reduceLT, Int.reduceLE, Int.reduceEq, Int.reduceNe, Int.reduceBEq, Int.reduceBNe, Int.reduceToNat, Int.reduceGT, Int.reduceGE, ↓reduceIte, decide_true, decide_false, eq_self, Nat.mul_one, Nat.zero_mul, Nat.one_mul, Int.le_refl, Nat.le_refl, Int.cast_ofNat_Int]
    first | done | trace_state
noncomputable def scIndex : List TV → Option TV
  | [.nilSl, .int .i64 v] => some (.int .i64 (-1))
  | [.sl cs n f, .int .i64 v] => match unI cs with
    | some l => if n = l.length ∧ l.length ≤ 1000000 then some (.int .i64 (fIdx v 0 l)) else none
    | none => none
  | _ => none
theorem scIndex_ok : ∀ xs r, scIndex xs = some r → PCalls Tryd.prog 150 xs r := by
  intro xs r h
  unfold scIndex at h
  split at h
  · cases h; exact sIndexNil_c _
  · split at h
    · rename_i l hl
      split at h
      · rename_i hc; cases h
        obtain ⟨rfl, hc⟩ := hc
        have e := unI_some hl
        rw [ic_ints] at e
        subst e
        exact sIndex_c _ hc _
      · cases h
    · cases h
  · cases h
attribute [go_sem] scIndex
noncomputable def spGi : Pm.Spec := noSpec.one 150 scIndex
@[go_sem] theorem spGi_p (f : FuncId) (xs : List TV) : spGi.p f xs = Pm.Spec.p (noSpec.one 150 scIndex) f xs := rfl
@[go_sem] theorem spGi_h (f : FuncId) (ps : List PV) (hl : List PO) : spGi.h f ps hl = Pm.Spec.h (noSpec.one 150 scIndex) f ps hl := rfl
@[go_sem] theorem spGi_y (Y : Pm.YS) (f : FuncId) (ps : List PV) (hl : List PO) : spGi.y Y f ps hl = Pm.Spec.y (noSpec.one 150 scIndex) Y f ps hl := rfl
@[go_sem] theorem spGi_fz (f : FuncId) : spGi.fz f = Pm.Spec.fz (noSpec.one 150 scIndex) f := rfl
@[go_sem] theorem spGi_fr (f : FuncId) : spGi.fr f = Pm.Spec.fr (noSpec.one 150 scIndex) f := rfl
@[go_sem] theorem spGi_yf (f : FuncId) : spGi.yf f = Pm.Spec.yf (noSpec.one 150 scIndex) f := rfl
@[go_sem] theorem spGi_gd : spGi.gd = Pm.Spec.gd (noSpec.one 150 scIndex) := rfl
@[go_sem] theorem spGi_mu (t : TypeId) : spGi.mu t = Pm.Spec.mu (noSpec.one 150 scIndex) t := rfl
@[go_sem] theorem spGi_nf (t : TypeId) : spGi.nf t = Pm.Spec.nf (noSpec.one 150 scIndex) t := rfl
theorem spGi_ok : SpecOk Tryd.prog spGi := Spec.one_ok scIndex_ok noSpec_ok
noncomputable def scContains : List TV → Option TV
  | [.nilSl, .int .i64 v] => some (.bool false)
  | [.sl cs n f, .int .i64 v] => match unI cs with
    | some l => if n = l.length ∧ l.length ≤ 1000000 then some (.bool (l.contains v)) else none
    | none => none
  | _ => none
theorem scContains_ok : ∀ xs r, scContains xs = some r → PCalls Tryd.prog 115 xs r := by
  intro xs r h
  unfold scContains at h
  split at h
  · cases h
    refine pcalls_by Tryd.mixes spGi_ok (fn := Tryd.f115) Tryd.func115 rfl (by kernel_rfl) (by show 2 ≤ _; decide) ?_
    simp (decide := true) (maxSteps := 4000000) only [go_sem, Nat.reduceAdd, Nat.reduceSub, Nat.reduceMul, Nat.reduceDiv, Nat.reduceMod, Nat.reduceLT, Nat.reduceLeDiff, Nat.reduceEqDiff, Nat.reduceBEq, Nat.reduceBNe, Nat.reduceGT, Int.reduceAdd, Int.reduceSub, Int.reduceMul, Int.reduceNeg, Int.reduceLT, Int.reduceLE, Int.reduceEq, Int.reduceNe, Int.reduceBEq, Int.reduceBNe, Int.reduceToNat, Int.reduceGT, Int.reduceGE, ↓reduceIte, decide_true, decide_false, eq_self, Nat.mul_one, Nat.zero_mul, Nat.one_mul, Int.le_refl, Nat.le_refl, Int.cast_ofNat_Int, Tryd.f115]
    first | done | trace_state
  · split at h
    · rename_i cs n f v _ l hl
      split at h
      · rename_i hc; cases h
        obtain ⟨rfl, hc⟩ := hc
        have e := unI_some hl
        rw [ic_ints] at e
        subst e
        have hd : decide (fIdx v 0 l ≥ 0) = l.contains v := by
          rw [Bool.eq_iff_iff, decide_eq_true_eq, fIdx_in, List.contains_iff_mem]
        refine pcalls_by Tryd.mixes spGi_ok (fn := Tryd.f115) Tryd.func115 rfl (by kernel_rfl) (by show 2 ≤ _; decide) ?_
        simp (decide := true) (maxSteps := 4000000) only [go_sem, Nat.reduceAdd, Nat.reduceSub, Nat.reduceMul, Nat.reduceDiv, Nat.reduceMod, Nat.reduceLT, Nat.reduceLeDiff, Nat.reduceEqDiff, Nat.reduceBEq, Nat.reduceBNe, Nat.reduceGT, Int.reduceAdd, Int.reduceSub, Int.reduceMul, Int.reduceNeg, Int.reduceLT, Int.reduceLE, Int.reduceEq, Int.reduceNe, Int.reduceBEq, Int.reduceBNe, Int.reduceToNat, Int.reduceGT, Int.reduceGE, ↓reduceIte, decide_true, decide_false, eq_self, Nat.mul_one, Nat.zero_mul, Nat.one_mul, Int.le_refl, Nat.le_refl, Int.cast_ofNat_Int, Tryd.f115, unIs, hc, hd]
        first | done | trace_state
      · cases h
    · cases h
  · cases h
attribute [go_sem] scContains
theorem allO_tt : ∀ xs : List TV, allO (List.map (PV.toT ∘ PV.t) xs) = some xs
  | [] => rfl
  | x :: xs => by simp [allO, PV.toT, allO_tt xs]
noncomputable def spGm : Pm.Spec := { noSpec with mu := fun t => t == 22 }
@[go_sem] theorem spGm_p (f : FuncId) (xs : List TV) : spGm.p f xs = Pm.Spec.p ({ noSpec with mu := fun t => t == 22 }) f xs := rfl
@[go_sem] theorem spGm_h (f : FuncId) (ps : List PV) (hl : List PO) : spGm.h f ps hl = Pm.Spec.h ({ noSpec with mu := fun t => t == 22 }) f ps hl := rfl
@[go_sem] theorem spGm_y (Y : Pm.YS) (f : FuncId) (ps : List PV) (hl : List PO) : spGm.y Y f ps hl = Pm.Spec.y ({ noSpec with mu := fun t => t == 22 }) Y f ps hl := rfl
@[go_sem] theorem spGm_fz (f : FuncId) : spGm.fz f = Pm.Spec.fz ({ noSpec with mu := fun t => t == 22 }) f := rfl
@[go_sem] theorem spGm_fr (f : FuncId) : spGm.fr f = Pm.Spec.fr ({ noSpec with mu := fun t => t == 22 }) f := rfl
@[go_sem] theorem spGm_yf (f : FuncId) : spGm.yf f = Pm.Spec.yf ({ noSpec with mu := fun t => t == 22 }) f := rfl
@[go_sem] theorem spGm_gd : spGm.gd = Pm.Spec.gd ({ noSpec with mu := fun t => t == 22 }) := rfl
@[go_sem] theorem spGm_mu (t : TypeId) : spGm.mu t = Pm.Spec.mu ({ noSpec with mu := fun t => t == 22 }) t := rfl
@[go_sem] theorem spGm_nf (t : TypeId) : spGm.nf t = Pm.Spec.nf ({ noSpec with mu := fun t => t == 22 }) t := rfl
theorem spGm_ok : SpecOk Tryd.prog spGm := ⟨noSpec_ok.1, noSpec_ok.2⟩
theorem sClone_c (l : List Int) (f : Bool) (h1 : 1 ≤ l.length) (hl : l.length ≤ 1000) : HCalls Tryd.prog 116 [.t (.sl (ints l) l.length f)] (getL []) (.gsl 0 1 1 0 l.length false) (getL [.grow 1 ((ints l).map .t) 3 1]) := by
  have h8 : l.length * 8 ≤ 140737488355328 := by omega
  have hln := ints_len l
  have h0 : ¬ l.length = 0 := by omega
  refine hcalls_by Tryd.mixes spGm_ok (fn := Tryd.f116) Tryd.func116 rfl (by kernel_rfl) (by show 1 ≤ _; decide) ?_
  simp (decide := true) (maxSteps := 4000000) only [go_sem, Nat.reduceAdd, Nat.reduceSub, Nat.reduceMul, Nat.reduceDiv, Nat.reduceMod, Nat.reduceLT, Nat.reduceLeDiff, Nat.reduceEqDiff, Nat.reduceBEq, Nat.reduceBNe, Nat.reduceGT, Int.reduceAdd, Int.reduceSub, Int.reduceMul, Int.reduceNeg, Int.reduceLT, Int.reduceLE, Int.reduceEq, Int.reduceNe, Int.reduceBEq, Int.reduceBNe, Int.reduceToNat, Int.reduceGT, Int.reduceGE, ↓reduceIte, decide_true, decide_false, eq_self, Nat.mul_one, Nat.zero_mul, Nat.one_mul, Int.le_refl, Nat.le_refl, Int.cast_ofNat_Int, Tryd.f116, h0, h8, hln, Nat.mul_one]
  exact ⟨_, rfl, rfl⟩
theorem sCloneNil_c : HCalls Tryd.prog 116 [.t .nilSl] (getL []) (.t .nilSl) (getL []) := by
  refine hcalls_by Tryd.mixes spGm_ok (fn := Tryd.f116) Tryd.func116 rfl (by kernel_rfl) (by show 1 ≤ _; decide) ?_
  simp (decide := true) (maxSteps := 4000000) only [go_sem, Nat.reduceAdd, Nat.reduceSub, Nat.reduceMul, Nat.reduceDiv, Nat.reduceMod, Nat.reduceLT, Nat.reduceLeDiff, Nat.reduceEqDiff, Nat.reduceBEq, Nat.reduceBNe, Nat.reduceGT, Int.reduceAdd, Int.reduceSub, Int.reduceMul, Int.reduceNeg, Int.reduceLT, Int.reduceLE, Int.reduceEq, Int.reduceNe, Int.reduceBEq, Int.reduceBNe, Int.reduceToNat, Int.reduceGT, Int.reduceGE, ↓reduceIte, decide_true, decide_false, eq_self, Nat.mul_one, Nat.zero_mul, Nat.one_mul, Int.le_refl, Nat.le_refl, Int.cast_ofNat_Int, Tryd.f116]
  exact ⟨_, rfl, rfl⟩
noncomputable def scClone : List PV → List PO → Option (PV × List PO)
  | [.t .nilSl], [] => some (.t .nilSl, [])
  | [.t (.sl cs n f)], [] => match unI cs with
    | some l => if (1 ≤ l.length ∧ l.length ≤ 1000) ∧ n = l.length then some (.gsl 0 1 1 0 l.length false, [.grow 1 ((ints l).map .t) 3 1]) else none
    | none => none
  | _, _ => none
theorem scClone_ok : ∀ xs hl r hl', scClone xs hl = some (r, hl') → HCalls Tryd.prog 116 xs (getL hl) r (getL hl') := by
  intro xs hl r hl' h
  unfold scClone at h
  split at h
  · simp only [Option.some.injEq, Prod.mk.injEq] at h
    obtain ⟨rfl, rfl⟩ := h
    exact sCloneNil_c
  · split at h
    · rename_i l hl
      split at h
      · rename_i hc
        simp only [Option.some.injEq, Prod.mk.injEq] at h
        obtain ⟨rfl, rfl⟩ := h
        obtain ⟨h1, rfl⟩ := hc
        have e := unI_some hl
        rw [ic_ints] at e
        subst e
        exact sClone_c l _ h1.1 h1.2
      · cases h
    · cases h
  · cases h
attribute [go_sem] scClone
end Go.Proofs.YtlonlnfenbadbaaDoor
