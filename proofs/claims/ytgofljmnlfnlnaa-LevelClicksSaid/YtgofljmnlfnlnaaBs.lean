/- Contracts of the small helpers. -/
import Derived.Test.YtgofljmnlfnlnaaTy
import Derived.Test.YtgofljmnlfnlnaaPb
namespace Go.Proofs.Ytgofljmnlfnlnaa
open Go.RowKit Go.Pm Go.Oc
set_option maxRecDepth 100000
set_option maxHeartbeats 1000000

theorem In_c (n lo hi : Int) : PCalls Try.prog 42 [.int .i64 n, .int .i64 lo, .int .i64 hi] (.bool (inB n lo hi)) := by
  refine pcalls_by Try.mixes noSpec_ok (fn := Try.f42) Try.func42 rfl (by kernel_rfl) (by show 3 ≤ _; decide) ?_
  simp (decide := true) (maxSteps := 4000000) only [go_sem, Nat.reduceAdd, Nat.reduceSub, Nat.reduceMul, Nat.reduceDiv, Nat.reduceMod, Nat.reduceLT, Nat.reduceLeDiff, Nat.reduceEqDiff, Nat.reduceBEq, Nat.reduceBNe, Nat.reduceGT, Int.reduceAdd, Int.reduceSub, Int.reduceMul, Int.reduceNeg, Int.reduceLT, Int.reduceLE, Int.reduceEq, Int.reduceNe, Int.reduceBEq, Int.reduceBNe, Int.reduceToNat, Int.reduceGT, Int.reduceGE, ↓reduceIte, decide_true, decide_false, Try.f42, inB, ge_iff_le]
def gIn : List TV → Option TV
  | [.int .i64 n, .int .i64 a, .int .i64 b] => some (.bool (inB n a b))
  | _ => none
theorem gIn_ok : ∀ xs r, gIn xs = some r → PCalls Try.prog 42 xs r := by
  intro xs r h
  unfold gIn at h
  split at h
  · cases h; exact In_c _ _ _
  · cases h
def spIn : Pm.Spec := noSpec.one 42 gIn
attribute [go_sem] gIn spIn
theorem spIn_ok : SpecOk Try.prog spIn := Spec.one_ok gIn_ok noSpec_ok

theorem Spanned_c (s : Span) (lo hi : Int) : PCalls Try.prog 53 [s.t, .int .i64 lo, .int .i64 hi] (.bool (spannedB s lo hi)) := by
  refine pcalls_by Try.mixes noSpec_ok (fn := Try.f53) Try.func53 rfl (by kernel_rfl) (by show 3 ≤ _; decide) ?_
  simp (decide := true) (maxSteps := 4000000) only [go_sem, Nat.reduceAdd, Nat.reduceSub, Nat.reduceMul, Nat.reduceDiv, Nat.reduceMod, Nat.reduceLT, Nat.reduceLeDiff, Nat.reduceEqDiff, Nat.reduceBEq, Nat.reduceBNe, Nat.reduceGT, Int.reduceAdd, Int.reduceSub, Int.reduceMul, Int.reduceNeg, Int.reduceLT, Int.reduceLE, Int.reduceEq, Int.reduceNe, Int.reduceBEq, Int.reduceBNe, Int.reduceToNat, Int.reduceGT, Int.reduceGE, ↓reduceIte, decide_true, decide_false, Try.f53, Span.t, Span.cs, spannedB]
theorem Holds_c (s : Span) (n : Int) : PCalls Try.prog 32 [s.t, .int .i64 n] (.bool (inB n s.lo s.hi)) := by
  refine pcalls_by Try.mixes spIn_ok (fn := Try.f32) Try.func32 rfl (by kernel_rfl) (by show 2 ≤ _; decide) ?_
  simp (decide := true) (maxSteps := 4000000) only [go_sem, Nat.reduceAdd, Nat.reduceSub, Nat.reduceMul, Nat.reduceDiv, Nat.reduceMod, Nat.reduceLT, Nat.reduceLeDiff, Nat.reduceEqDiff, Nat.reduceBEq, Nat.reduceBNe, Nat.reduceGT, Int.reduceAdd, Int.reduceSub, Int.reduceMul, Int.reduceNeg, Int.reduceLT, Int.reduceLE, Int.reduceEq, Int.reduceNe, Int.reduceBEq, Int.reduceBNe, Int.reduceToNat, Int.reduceGT, Int.reduceGE, ↓reduceIte, decide_true, decide_false, Try.f32, Span.t, Span.cs, spIn, gIn]
theorem Wider_c (s : Span) (n : Int) (b : Bool) : PCalls Try.prog 72 [s.t, .int .i64 n, .bool b] (widerS s n b).t := by
  refine pcalls_by Try.mixes noSpec_ok (fn := Try.f72) Try.func72 rfl (by kernel_rfl) (by show 3 ≤ _; decide) ?_
  cases b <;> simp (decide := true) (maxSteps := 4000000) only [go_sem, Nat.reduceAdd, Nat.reduceSub, Nat.reduceMul, Nat.reduceDiv, Nat.reduceMod, Nat.reduceLT, Nat.reduceLeDiff, Nat.reduceEqDiff, Nat.reduceBEq, Nat.reduceBNe, Nat.reduceGT, Int.reduceAdd, Int.reduceSub, Int.reduceMul, Int.reduceNeg, Int.reduceLT, Int.reduceLE, Int.reduceEq, Int.reduceNe, Int.reduceBEq, Int.reduceBNe, Int.reduceToNat, Int.reduceGT, Int.reduceGE, ↓reduceIte, decide_true, decide_false, Try.f72, Span.t, Span.cs, widerS]
theorem Mod_c (n by_ : Int) (h : 0 < by_) (h2 : by_ ≤ 9223372036854775807) : PCalls Try.prog 34 [.int .i64 n, .int .i64 by_] (.int .i64 (n % by_)) := by
  refine pcalls_by Try.mixes noSpec_ok (fn := Try.f34) Try.func34 rfl (by kernel_rfl) (by show 2 ≤ _; decide) ?_
  have hne : ¬ by_ = 0 := by omega
  simp (decide := true) (maxSteps := 4000000) only [go_sem, Nat.reduceAdd, Nat.reduceSub, Nat.reduceMul, Nat.reduceDiv, Nat.reduceMod, Nat.reduceLT, Nat.reduceLeDiff, Nat.reduceEqDiff, Nat.reduceBEq, Nat.reduceBNe, Nat.reduceGT, Int.reduceAdd, Int.reduceSub, Int.reduceMul, Int.reduceNeg, Int.reduceLT, Int.reduceLE, Int.reduceEq, Int.reduceNe, Int.reduceBEq, Int.reduceBNe, Int.reduceToNat, Int.reduceGT, Int.reduceGE, ↓reduceIte, decide_true, decide_false, Try.f34, hne]
  have e := Int.tmod_eq_emod (a := n) (b := by_)
  have e1 := Int.emod_nonneg n hne
  have e2 := Int.emod_lt_of_pos n h
  by_cases hn : n.tmod by_ < 0
  · simp (decide := true) (maxSteps := 4000000) only [go_sem, Nat.reduceAdd, Nat.reduceSub, Nat.reduceMul, Nat.reduceDiv, Nat.reduceMod, Nat.reduceLT, Nat.reduceLeDiff, Nat.reduceEqDiff, Nat.reduceBEq, Nat.reduceBNe, Nat.reduceGT, Int.reduceAdd, Int.reduceSub, Int.reduceMul, Int.reduceNeg, Int.reduceLT, Int.reduceLE, Int.reduceEq, Int.reduceNe, Int.reduceBEq, Int.reduceBNe, Int.reduceToNat, Int.reduceGT, Int.reduceGE, ↓reduceIte, decide_true, decide_false, hn]
    have e3 : n.tmod by_ + by_ = n % by_ := by
      rw [e] at hn ⊢
      split at hn
      · omega
      · rename_i hc
        rw [if_neg hc]
        have : (by_.natAbs : Int) = by_ := by omega
        omega
    rw [e3, wrap_in (by omega) (by omega)]
  · simp (decide := true) (maxSteps := 4000000) only [go_sem, Nat.reduceAdd, Nat.reduceSub, Nat.reduceMul, Nat.reduceDiv, Nat.reduceMod, Nat.reduceLT, Nat.reduceLeDiff, Nat.reduceEqDiff, Nat.reduceBEq, Nat.reduceBNe, Nat.reduceGT, Int.reduceAdd, Int.reduceSub, Int.reduceMul, Int.reduceNeg, Int.reduceLT, Int.reduceLE, Int.reduceEq, Int.reduceNe, Int.reduceBEq, Int.reduceBNe, Int.reduceToNat, Int.reduceGT, Int.reduceGE, ↓reduceIte, decide_true, decide_false, hn]
    rw [e] at hn ⊢
    split at hn
    · rename_i hc; rw [if_pos hc]; simp
    · rename_i hc
      have : (by_.natAbs : Int) = by_ := by omega
      omega
theorem Abs_c (n : Int) : PCalls Try.prog 39 [.int .i64 n] (.int .i64 (max n (IntKind.i64.wrap (0 - n)))) := by
  refine pcalls_by Try.mixes noSpec_ok (fn := Try.f39) Try.func39 rfl (by kernel_rfl) (by show 1 ≤ _; decide) ?_
  simp (decide := true) (maxSteps := 4000000) only [go_sem, Nat.reduceAdd, Nat.reduceSub, Nat.reduceMul, Nat.reduceDiv, Nat.reduceMod, Nat.reduceLT, Nat.reduceLeDiff, Nat.reduceEqDiff, Nat.reduceBEq, Nat.reduceBNe, Nat.reduceGT, Int.reduceAdd, Int.reduceSub, Int.reduceMul, Int.reduceNeg, Int.reduceLT, Int.reduceLE, Int.reduceEq, Int.reduceNe, Int.reduceBEq, Int.reduceBNe, Int.reduceToNat, Int.reduceGT, Int.reduceGE, ↓reduceIte, decide_true, decide_false, Try.f39]
def gSpanned : List TV → Option TV
  | [.agg [.int .i64 x, .int .i64 y], .int .i64 a, .int .i64 b] => some (.bool (spannedB ⟨x, y⟩ a b))
  | _ => none
theorem gSpanned_ok : ∀ xs r, gSpanned xs = some r → PCalls Try.prog 53 xs r := by
  intro xs r h
  unfold gSpanned at h
  split at h
  · cases h; exact Spanned_c ⟨_, _⟩ _ _
  · cases h
def gHolds : List TV → Option TV
  | [.agg [.int .i64 x, .int .i64 y], .int .i64 n] => some (.bool (inB n x y))
  | _ => none
theorem gHolds_ok : ∀ xs r, gHolds xs = some r → PCalls Try.prog 32 xs r := by
  intro xs r h
  unfold gHolds at h
  split at h
  · cases h; exact Holds_c ⟨_, _⟩ _
  · cases h
def gWider : List TV → Option TV
  | [.agg [.int .i64 x, .int .i64 y], .int .i64 n, .bool b] => some (widerS ⟨x, y⟩ n b).t
  | _ => none
theorem gWider_ok : ∀ xs r, gWider xs = some r → PCalls Try.prog 72 xs r := by
  intro xs r h
  unfold gWider at h
  split at h
  · cases h; exact Wider_c ⟨_, _⟩ _ _
  · cases h
def gMod : List TV → Option TV
  | [.int .i64 n, .int .i64 b] => if 0 < b ∧ b ≤ 9223372036854775807 then some (.int .i64 (n % b)) else none
  | _ => none
theorem gMod_ok : ∀ xs r, gMod xs = some r → PCalls Try.prog 34 xs r := by
  intro xs r h
  unfold gMod at h
  split at h
  · split at h
    · rename_i hc; cases h; exact Mod_c _ _ hc.1 hc.2
    · cases h
  · cases h
def gAbs : List TV → Option TV
  | [.int .i64 n] => some (.int .i64 (max n (IntKind.i64.wrap (0 - n))))
  | _ => none
theorem gAbs_ok : ∀ xs r, gAbs xs = some r → PCalls Try.prog 39 xs r := by
  intro xs r h
  unfold gAbs at h
  split at h
  · cases h; exact Abs_c _
  · cases h
def spB1 : Pm.Spec := ((((spIn.one 53 gSpanned).one 32 gHolds).one 72 gWider).one 34 gMod).one 39 gAbs
attribute [go_sem] gSpanned gHolds gWider gMod gAbs spB1
theorem spB1_ok : SpecOk Try.prog spB1 := Spec.one_ok gAbs_ok (Spec.one_ok gMod_ok (Spec.one_ok gWider_ok (Spec.one_ok gHolds_ok (Spec.one_ok gSpanned_ok spIn_ok))))

/-- Numbers whose sums and differences fit. -/
def Mid (n : Int) : Prop := -4000000000000000000 ≤ n ∧ n ≤ 4000000000000000000
theorem tdiv_floor {a b : Int} (h : 0 < b) : (a - a % b).tdiv b = a / b := by
  have h1 : a - a % b = b * (a / b) := by have := Int.mul_ediv_add_emod a b; omega
  rw [h1, Int.mul_tdiv_cancel_left _ (by omega)]
theorem div_mid {a b : Int} (ha : Mid a) (h : 0 < b) : Mid (a / b) ∨ False := by
  refine .inl ⟨?_, ?_⟩
  · have := Int.ediv_le_ediv h ha.1
    rcases Int.lt_or_le a 0 with h0 | h0
    · have h2 : a ≤ a / b := by
        rw [Int.le_ediv_iff_mul_le h]
        have : a * b ≤ a * 1 := Int.mul_le_mul_of_nonpos_left (by omega) (by omega)
        omega
      have := ha.1; omega
    · have := Int.ediv_nonneg h0 (by omega : 0 ≤ b); omega
  · rcases Int.lt_or_le a 0 with h0 | h0
    · have : a / b < 0 := Int.ediv_neg_of_neg_of_pos h0 h
      omega
    · have := Int.ediv_le_self b h0; have := ha.2; omega
theorem Down_c (a b : Int) (ha : Mid a) (hb : 0 < b) (hb2 : Mid b) : PCalls Try.prog 63 [.int .i64 a, .int .i64 b] (.int .i64 (a / b)) := by
  refine pcalls_by Try.mixes spB1_ok (fn := Try.f63) Try.func63 rfl (by kernel_rfl) (by show 2 ≤ _; decide) ?_
  have hne : ¬ b = 0 := by omega
  have e1 := Int.emod_nonneg a hne
  have e2 := Int.emod_lt_of_pos a hb
  have hbd : b ≤ 9223372036854775807 := by have := hb2.2; omega
  have hd := (div_mid ha hb).resolve_right id
  simp (decide := true) (maxSteps := 4000000) only [go_sem, Nat.reduceAdd, Nat.reduceSub, Nat.reduceMul, Nat.reduceDiv, Nat.reduceMod, Nat.reduceLT, Nat.reduceLeDiff, Nat.reduceEqDiff, Nat.reduceBEq, Nat.reduceBNe, Nat.reduceGT, Int.reduceAdd, Int.reduceSub, Int.reduceMul, Int.reduceNeg, Int.reduceLT, Int.reduceLE, Int.reduceEq, Int.reduceNe, Int.reduceBEq, Int.reduceBNe, Int.reduceToNat, Int.reduceGT, Int.reduceGE, ↓reduceIte, decide_true, decide_false, Try.f63, spB1, spIn, gMod, hb, hbd, hne]
  rw [wrap_in (n := a - a % b) (by have := ha.1; have := hb2.2; omega) (by have := ha.2; omega), tdiv_floor hb, wrap_in (by have := hd.1; omega) (by have := hd.2; omega)]
def gDown : List TV → Option TV
  | [.int .i64 a, .int .i64 b] => if (-4000000000000000000 ≤ a ∧ a ≤ 4000000000000000000) ∧ 0 < b ∧ b ≤ 4000000000000000000 then some (.int .i64 (a / b)) else none
  | _ => none
theorem gDown_ok : ∀ xs r, gDown xs = some r → PCalls Try.prog 63 xs r := by
  intro xs r h
  unfold gDown at h
  split at h
  · split at h
    · rename_i hc; cases h; exact Down_c _ _ hc.1 hc.2.1 ⟨by omega, hc.2.2⟩
    · cases h
  · cases h
def spB2 : Pm.Spec := spB1.one 63 gDown
attribute [go_sem] gDown spB2
theorem spB2_ok : SpecOk Try.prog spB2 := Spec.one_ok gDown_ok spB1_ok
theorem Up_c (a b : Int) (ha : Mid a) (hb : 0 < b) (hb2 : Mid b) : PCalls Try.prog 41 [.int .i64 a, .int .i64 b] (.int .i64 (-((-a) / b))) := by
  refine pcalls_by Try.mixes spB2_ok (fn := Try.f41) Try.func41 rfl (by kernel_rfl) (by show 2 ≤ _; decide) ?_
  have hna : IntKind.i64.wrap (0 - a) = -a := by rw [wrap_in (by have := ha.2; omega) (by have := ha.1; omega)]; omega
  have hm : Mid (-a) := ⟨by have := ha.2; omega, by have := ha.1; omega⟩
  have hd := (div_mid hm hb).resolve_right id
  have hc : ((-4000000000000000000 ≤ -a ∧ -a ≤ 4000000000000000000) ∧ 0 < b ∧ b ≤ 4000000000000000000) := ⟨hm, hb, hb2.2⟩
  simp (decide := true) (maxSteps := 4000000) only [go_sem, Nat.reduceAdd, Nat.reduceSub, Nat.reduceMul, Nat.reduceDiv, Nat.reduceMod, Nat.reduceLT, Nat.reduceLeDiff, Nat.reduceEqDiff, Nat.reduceBEq, Nat.reduceBNe, Nat.reduceGT, Int.reduceAdd, Int.reduceSub, Int.reduceMul, Int.reduceNeg, Int.reduceLT, Int.reduceLE, Int.reduceEq, Int.reduceNe, Int.reduceBEq, Int.reduceBNe, Int.reduceToNat, Int.reduceGT, Int.reduceGE, ↓reduceIte, decide_true, decide_false, Try.f41, spB2, gDown, hna, if_pos hc]
  rw [wrap_in (by have := hd.2; omega) (by have := hd.1; omega)]; omega
def gUp : List TV → Option TV
  | [.int .i64 a, .int .i64 b] => if (-4000000000000000000 ≤ a ∧ a ≤ 4000000000000000000) ∧ 0 < b ∧ b ≤ 4000000000000000000 then some (.int .i64 (-((-a) / b))) else none
  | _ => none
theorem gUp_ok : ∀ xs r, gUp xs = some r → PCalls Try.prog 41 xs r := by
  intro xs r h
  unfold gUp at h
  split at h
  · split at h
    · rename_i hc; cases h; exact Up_c _ _ hc.1 hc.2.1 ⟨by omega, hc.2.2⟩
    · cases h
  · cases h
theorem Chosen_c (lo hi n : Int) (h1 : In64 lo) (h2 : In64 hi) : PCalls Try.prog 40 [.int .i64 lo, .int .i64 hi, .int .i64 n] (.int .i64 (chosen lo hi n)) := by
  refine pcalls_by Try.mixes spB1_ok (fn := Try.f40) Try.func40 rfl (by kernel_rfl) (by show 3 ≤ _; decide) ?_
  obtain ⟨a1, a2⟩ := h1
  obtain ⟨b1, b2⟩ := h2
  unfold chosen
  by_cases hge : lo ≥ hi
  · simp (decide := true) (maxSteps := 4000000) only [go_sem, Nat.reduceAdd, Nat.reduceSub, Nat.reduceMul, Nat.reduceDiv, Nat.reduceMod, Nat.reduceLT, Nat.reduceLeDiff, Nat.reduceEqDiff, Nat.reduceBEq, Nat.reduceBNe, Nat.reduceGT, Int.reduceAdd, Int.reduceSub, Int.reduceMul, Int.reduceNeg, Int.reduceLT, Int.reduceLE, Int.reduceEq, Int.reduceNe, Int.reduceBEq, Int.reduceBNe, Int.reduceToNat, Int.reduceGT, Int.reduceGE, ↓reduceIte, decide_true, decide_false, Try.f40, hge]
  · by_cases hbig : 9223372036854775807 < hi - lo + 1
    · have e : IntKind.i64.wrap (IntKind.i64.wrap (hi - lo) + 1) < 1 := by simp only [IntKind.wrap_i64]; omega
      simp (decide := true) (maxSteps := 4000000) only [go_sem, Nat.reduceAdd, Nat.reduceSub, Nat.reduceMul, Nat.reduceDiv, Nat.reduceMod, Nat.reduceLT, Nat.reduceLeDiff, Nat.reduceEqDiff, Nat.reduceBEq, Nat.reduceBNe, Nat.reduceGT, Int.reduceAdd, Int.reduceSub, Int.reduceMul, Int.reduceNeg, Int.reduceLT, Int.reduceLE, Int.reduceEq, Int.reduceNe, Int.reduceBEq, Int.reduceBNe, Int.reduceToNat, Int.reduceGT, Int.reduceGE, ↓reduceIte, decide_true, decide_false, Try.f40, hge, e, hbig]
    · have e : IntKind.i64.wrap (IntKind.i64.wrap (hi - lo) + 1) = hi - lo + 1 := by rw [wrap_in (n := hi - lo) (by omega) (by omega), wrap_in (by omega) (by omega)]
      have e2 : ¬ hi - lo + 1 < 1 := by omega
      have e3 : 0 < hi - lo + 1 ∧ hi - lo + 1 ≤ 9223372036854775807 := by omega
      have m1 := Int.emod_nonneg n (show hi - lo + 1 ≠ 0 by omega)
      have m2 := Int.emod_lt_of_pos n (show 0 < hi - lo + 1 by omega)
      simp (decide := true) (maxSteps := 4000000) only [go_sem, Nat.reduceAdd, Nat.reduceSub, Nat.reduceMul, Nat.reduceDiv, Nat.reduceMod, Nat.reduceLT, Nat.reduceLeDiff, Nat.reduceEqDiff, Nat.reduceBEq, Nat.reduceBNe, Nat.reduceGT, Int.reduceAdd, Int.reduceSub, Int.reduceMul, Int.reduceNeg, Int.reduceLT, Int.reduceLE, Int.reduceEq, Int.reduceNe, Int.reduceBEq, Int.reduceBNe, Int.reduceToNat, Int.reduceGT, Int.reduceGE, ↓reduceIte, decide_true, decide_false, Try.f40, hge, hbig, e, e2, spB1, spIn, gMod, if_pos e3]
      rw [wrap_in (by omega) (by omega)]
def gChosen : List TV → Option TV
  | [.int .i64 a, .int .i64 b, .int .i64 n] => if (-9223372036854775808 ≤ a ∧ a ≤ 9223372036854775807) ∧ -9223372036854775808 ≤ b ∧ b ≤ 9223372036854775807 then some (.int .i64 (chosen a b n)) else none
  | _ => none
theorem gChosen_ok : ∀ xs r, gChosen xs = some r → PCalls Try.prog 40 xs r := by
  intro xs r h
  unfold gChosen at h
  split at h
  · split at h
    · rename_i hc; cases h; exact Chosen_c _ _ _ hc.1 hc.2
    · cases h
  · cases h
theorem Bit_c (s k : Nat) (hk : k < 64) : PCalls Try.prog 68 [.int .i64 s, .int .i64 k] (.bool (s.testBit k)) := by
  refine pcalls_by Try.mixes noSpec_ok (fn := Try.f68) Try.func68 rfl (by kernel_rfl) (by show 2 ≤ _; decide) ?_
  have hk0 : ¬ (k : Int) < 0 := by omega
  have e : (Int.fdiv (s : Int) (2 ^ (min k 64))) = ((s / 2 ^ k : Nat) : Int) := by
    rw [Nat.min_eq_left (by omega), Int.fdiv_eq_ediv_of_nonneg _ (Int.pow_nonneg (by omega))]
    simp
  have e2 : Int.tmod ((s / 2 ^ k : Nat) : Int) 2 = ((s / 2 ^ k % 2 : Nat) : Int) := by
    rw [Int.tmod_eq_emod_of_nonneg (Int.natCast_nonneg _)]; simp
  simp (decide := true) (maxSteps := 4000000) only [go_sem, Nat.reduceAdd, Nat.reduceSub, Nat.reduceMul, Nat.reduceDiv, Nat.reduceMod, Nat.reduceLT, Nat.reduceLeDiff, Nat.reduceEqDiff, Nat.reduceBEq, Nat.reduceBNe, Nat.reduceGT, Int.reduceAdd, Int.reduceSub, Int.reduceMul, Int.reduceNeg, Int.reduceLT, Int.reduceLE, Int.reduceEq, Int.reduceNe, Int.reduceBEq, Int.reduceBNe, Int.reduceToNat, Int.reduceGT, Int.reduceGE, ↓reduceIte, decide_true, decide_false, Try.f68, hk0, e, IntKind.bits]
  rw [e2, Nat.testBit_eq_decide_div_mod_eq]
  congr 1
  rw [Bool.eq_iff_iff, beq_iff_eq, decide_eq_true_eq]
  omega
def gBit : List TV → Option TV
  | [.int .i64 s, .int .i64 k] => if 0 ≤ s ∧ 0 ≤ k ∧ k < 64 then some (.bool (s.toNat.testBit k.toNat)) else none
  | _ => none
theorem gBit_ok : ∀ xs r, gBit xs = some r → PCalls Try.prog 68 xs r := by
  intro xs r h
  unfold gBit at h
  split at h
  · rename_i s k
    split at h
    · rename_i hc; cases h
      have := Bit_c s.toNat k.toNat (by omega)
      rwa [Int.toNat_of_nonneg hc.1, Int.toNat_of_nonneg hc.2.1] at this
    · cases h
  · cases h
def spB3 : Pm.Spec := ((spB2.one 41 gUp).one 40 gChosen).one 68 gBit
attribute [go_sem] gUp gChosen gBit spB3
theorem spB3_ok : SpecOk Try.prog spB3 := Spec.one_ok gBit_ok (Spec.one_ok gChosen_ok (Spec.one_ok gUp_ok spB2_ok))

theorem Same_c (a b : List Int) (fa fb : Bool) (ha : a.length ≤ 9223372036854775806) : PCalls Try.prog 25 [.sl (ints a) a.length fa, .sl (ints b) b.length fb] (.bool (decide (a = b))) := by
  refine pcalls_by Try.mixes noSpec_ok (fn := Try.f25) Try.func25 rfl (by kernel_rfl) (by show 2 ≤ _; decide) ?_
  by_cases hl : a.length = b.length
  · have hl' : (a.length : Int) = b.length := by omega
    simp (decide := true) (maxSteps := 4000000) only [go_sem, Nat.reduceAdd, Nat.reduceSub, Nat.reduceMul, Nat.reduceDiv, Nat.reduceMod, Nat.reduceLT, Nat.reduceLeDiff, Nat.reduceEqDiff, Nat.reduceBEq, Nat.reduceBNe, Nat.reduceGT, Int.reduceAdd, Int.reduceSub, Int.reduceMul, Int.reduceNeg, Int.reduceLT, Int.reduceLE, Int.reduceEq, Int.reduceNe, Int.reduceBEq, Int.reduceBNe, Int.reduceToNat, Int.reduceGT, Int.reduceGE, ↓reduceIte, decide_true, decide_false, Try.f25, hl', bne_self_eq_false]
    refine pwpC_loop (A := { k : Nat // a.take k = b.take k ∧ k ≤ a.length }) (fun k => { env := [(5, .t (.int .i64 k.1)), (0, .t (.sl (ints a) a.length fa)), (1, .t (.sl (ints b) b.length fb))], heap := [] }) (fun k => a.length - k.1) ⟨0, by simp⟩ ?_ (fun _ => by rfl) fun ⟨k, hk, hka⟩ => ?_
    · simp (decide := true) (maxSteps := 4000000) only [go_sem, Nat.reduceAdd, Nat.reduceSub, Nat.reduceMul, Nat.reduceDiv, Nat.reduceMod, Nat.reduceLT, Nat.reduceLeDiff, Nat.reduceEqDiff, Nat.reduceBEq, Nat.reduceBNe, Nat.reduceGT, Int.reduceAdd, Int.reduceSub, Int.reduceMul, Int.reduceNeg, Int.reduceLT, Int.reduceLE, Int.reduceEq, Int.reduceNe, Int.reduceBEq, Int.reduceBNe, Int.reduceToNat, Int.reduceGT, Int.reduceGE, ↓reduceIte, decide_true, decide_false]
    · by_cases hlt : (k : Int) < a.length
      · have hltb : (k : Int) < b.length := by omega
        obtain ⟨x, hx⟩ := get_lt hlt
        obtain ⟨y, hy⟩ := get_lt hltb
        by_cases hxy : x = y
        · subst hxy
          simp (decide := true) (maxSteps := 4000000) only [go_sem, Nat.reduceAdd, Nat.reduceSub, Nat.reduceMul, Nat.reduceDiv, Nat.reduceMod, Nat.reduceLT, Nat.reduceLeDiff, Nat.reduceEqDiff, Nat.reduceBEq, Nat.reduceBNe, Nat.reduceGT, Int.reduceAdd, Int.reduceSub, Int.reduceMul, Int.reduceNeg, Int.reduceLT, Int.reduceLE, Int.reduceEq, Int.reduceNe, Int.reduceBEq, Int.reduceBNe, Int.reduceToNat, Int.reduceGT, Int.reduceGE, ↓reduceIte, decide_true, decide_false, hlt, hltb, ints_at hx, ints_at hy, hl', bne_self_eq_false]
          refine ⟨⟨k + 1, by rw [take_snoc hx, take_snoc hy, hk], by omega⟩, by rw [wrap_in (by omega) (by omega)]; simp, by simp only; omega⟩
        · have hxy' : (x != y) = true := by simpa using hxy
          simp (decide := true) (maxSteps := 4000000) only [go_sem, Nat.reduceAdd, Nat.reduceSub, Nat.reduceMul, Nat.reduceDiv, Nat.reduceMod, Nat.reduceLT, Nat.reduceLeDiff, Nat.reduceEqDiff, Nat.reduceBEq, Nat.reduceBNe, Nat.reduceGT, Int.reduceAdd, Int.reduceSub, Int.reduceMul, Int.reduceNeg, Int.reduceLT, Int.reduceLE, Int.reduceEq, Int.reduceNe, Int.reduceBEq, Int.reduceBNe, Int.reduceToNat, Int.reduceGT, Int.reduceGE, ↓reduceIte, decide_true, decide_false, hlt, hltb, ints_at hx, ints_at hy, hl', hxy']
          symm
          rw [decide_eq_false_iff_not]
          rintro rfl
          rw [hx] at hy; cases hy; exact hxy rfl
      · have hltb : ¬ (k : Int) < b.length := by omega
        simp (decide := true) (maxSteps := 4000000) only [go_sem, Nat.reduceAdd, Nat.reduceSub, Nat.reduceMul, Nat.reduceDiv, Nat.reduceMod, Nat.reduceLT, Nat.reduceLeDiff, Nat.reduceEqDiff, Nat.reduceBEq, Nat.reduceBNe, Nat.reduceGT, Int.reduceAdd, Int.reduceSub, Int.reduceMul, Int.reduceNeg, Int.reduceLT, Int.reduceLE, Int.reduceEq, Int.reduceNe, Int.reduceBEq, Int.reduceBNe, Int.reduceToNat, Int.reduceGT, Int.reduceGE, ↓reduceIte, decide_true, decide_false, hlt, hltb, hl']
        symm
        rw [decide_eq_true_eq]
        rwa [List.take_of_length_le (by omega), List.take_of_length_le (by omega)] at hk
  · have hl' : ((a.length : Int) != b.length) = true := by simp; omega
    simp (decide := true) (maxSteps := 4000000) only [go_sem, Nat.reduceAdd, Nat.reduceSub, Nat.reduceMul, Nat.reduceDiv, Nat.reduceMod, Nat.reduceLT, Nat.reduceLeDiff, Nat.reduceEqDiff, Nat.reduceBEq, Nat.reduceBNe, Nat.reduceGT, Int.reduceAdd, Int.reduceSub, Int.reduceMul, Int.reduceNeg, Int.reduceLT, Int.reduceLE, Int.reduceEq, Int.reduceNe, Int.reduceBEq, Int.reduceBNe, Int.reduceToNat, Int.reduceGT, Int.reduceGE, ↓reduceIte, decide_true, decide_false, Try.f25, hl']
    symm
    rw [decide_eq_false_iff_not]
    rintro rfl; exact hl rfl
end Go.Proofs.Ytgofljmnlfnlnaa
