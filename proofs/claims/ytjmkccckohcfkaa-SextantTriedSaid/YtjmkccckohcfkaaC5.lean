/- What the claim leans on, text 5. -/
import Derived.Test.YtjmkccckohcfkaaC4
set_option linter.unusedSimpArgs false
set_option linter.unusedVariables false

/- Part Sf. -/
namespace Go.Os
open Go Go.Pm Go.Oc Go.Oh
def wid (s : Span) : Int := s.hi - s.lo
def fltTo (x : Sx) (k : Nat) : Int := (List.range k).foldl (fun m i => max m (wid (atS x.tab i))) 0
theorem fltTo_succ (x : Sx) (k : Nat) : fltTo x (k + 1) = max (fltTo x k) (wid (atS x.tab k)) := by unfold fltTo; rw [List.range_succ, List.foldl_append]; rfl
/-- All shades. -/
def allSh (x : Sx) : Nat := 2 ^ x.shade.length - 1
def rest (x : Sx) : Int := wid (addS (shs x (allSh x)) x.idx)
def fault (x : Sx) : Int := fltTo x x.tab.length + rest x
def classOf (n : Int) : Int := if n ≤ 40 then 1 else if n ≤ 200 then 2 else 3
def classP (x : Sx) : Int × Int × Int := if sxOk x then (classOf (fault x), fault x, 0) else (0, 0, 50)
theorem fltTo_b {x : Sx} (h : GoodS x) : ∀ k, k ≤ x.tab.length → 0 ≤ fltTo x k ∧ fltTo x k ≤ 1200
  | 0, _ => by simp [fltTo]
  | k + 1, hk => by
    have ih := fltTo_b h k (by omega)
    have := h.tab _ (atS_mem (show k < x.tab.length by omega))
    rw [fltTo_succ]; unfold wid; omega
theorem rest_b {x : Sx} (h : GoodS x) : 0 ≤ rest x ∧ rest x ≤ 5160 := by
  have := shs_b h (allSh x)
  have := h.idx
  unfold rest wid addS; simp only; omega
theorem corr_at {x : Sx} (h : GoodS x) {k : Nat} (hk : k < x.tab.length) : corr x.step x.tab ((k : Int) * x.step) = atS x.tab k := by
  have hs := h.st
  unfold corr
  have e1 : (k : Int) * x.step / x.step = k := Int.mul_ediv_cancel _ (by omega)
  have e2 : (k : Int) * x.step % x.step = 0 := Int.mul_emod_left _ _
  simp only [e1, e2, if_true, Int.toNat_natCast]
theorem at_b {x : Sx} (h : GoodS x) {k : Nat} (hk : k < x.tab.length) : 0 ≤ (k : Int) * x.step ∧ (k : Int) * x.step ≤ last x ∧ (k : Int) * x.step ≤ 504000 := by
  have hs := h.st
  have h1 := Int.mul_le_mul_of_nonneg_right (show (k : Int) ≤ (x.tab.length : Int) - 1 by omega) (show 0 ≤ x.step by omega)
  have h2 := Int.mul_nonneg (show 0 ≤ (k : Int) by omega) (show 0 ≤ x.step by omega)
  have h3 := last_b h
  have h4 : ((x.tab.length : Int) - 1) * x.step = last x := Int.mul_comm _ _
  omega
end Go.Os
namespace Go.Proofs.Ytjmkccckohcfkaa
open Go.RowKit Go.Pm Go.Oc Go.Oh Go.Os
set_option maxRecDepth 100000
set_option linter.unusedVariables false
set_option maxHeartbeats 4000000

theorem sWidth_c (s : Span) (h1 : bdB s = true) : PCalls Try.prog 68 [s.t] (.int .i64 (wid s)) := by
  have h := bdB_iff.1 h1
  have w : IntKind.i64.wrap (s.hi - s.lo) = s.hi - s.lo := wrap_in (by omega) (by omega)
  refine pcalls_by Try.mixes noSpec_ok (fn := Try.f68) Try.func68 rfl (by kernel_rfl) (by show 1 ≤ _; decide) ?_
  simp (decide := true) (maxSteps := 4000000) only [go_sem, Nat.reduceAdd, Nat.reduceSub, Nat.reduceMul, Nat.reduceDiv, Nat.reduceMod, Nat.reduceLT, Nat.reduceLeDiff, Nat.reduceEqDiff, Nat.reduceBEq, Nat.reduceBNe, Nat.reduceGT, Int.reduceAdd, Int.reduceSub, Int.reduceMul, Int.reduceNeg, Int.reduceLT, Int.reduceLE, Int.reduceEq, Int.reduceNe, Int.reduceBEq, Int.reduceBNe, Int.reduceToNat, Int.reduceGT, Int.reduceGE, ↓reduceIte, decide_true, decide_false, eq_self, Nat.mul_one, Nat.zero_mul, Nat.one_mul, Int.le_refl, Nat.le_refl, Int.cast_ofNat_Int, Try.f68, w, Span.t, Span.cs, wid]
noncomputable def sxWidth : List TV → Option TV
  | [.agg [.int .i64 a, .int .i64 b]] => if bdB ⟨a, b⟩ = true then some (.int .i64 (b - a)) else none
  | _ => none
theorem sxWidth_ok : ∀ xs r, sxWidth xs = some r → PCalls Try.prog 68 xs r := by
  intro xs r h
  unfold sxWidth at h
  split at h
  · split at h
    · rename_i hc; cases h; exact sWidth_c ⟨_, _⟩ hc
    · cases h
  · cases h
attribute [go_sem] sxWidth
noncomputable def spSl : Pm.Spec := noSpec.one 68 sxWidth
@[go_sem] theorem spSl_p (f : FuncId) (xs : List TV) : spSl.p f xs = Pm.Spec.p (noSpec.one 68 sxWidth) f xs := rfl
@[go_sem] theorem spSl_h (f : FuncId) (ps : List PV) (hl : List PO) : spSl.h f ps hl = Pm.Spec.h (noSpec.one 68 sxWidth) f ps hl := rfl
@[go_sem] theorem spSl_fz (f : FuncId) : spSl.fz f = Pm.Spec.fz (noSpec.one 68 sxWidth) f := rfl
@[go_sem] theorem spSl_fr (f : FuncId) : spSl.fr f = Pm.Spec.fr (noSpec.one 68 sxWidth) f := rfl
@[go_sem] theorem spSl_mu (t : TypeId) : spSl.mu t = Pm.Spec.mu (noSpec.one 68 sxWidth) t := rfl
@[go_sem] theorem spSl_nf (t : TypeId) : spSl.nf t = Pm.Spec.nf (noSpec.one 68 sxWidth) t := rfl
theorem spSl_ok : SpecOk Try.prog spSl := Spec.one_ok sxWidth_ok noSpec_ok
theorem sWidest_c (s : Span) (f : Bool) (h : bdB s = true) : PCalls Try.prog 67 [.fn 68 [] [], .sl [.int .i64 s.lo, .int .i64 s.hi] 1 f] (.int .i64 (max 0 (wid s))) := by
  have e0 : Span.mk s.lo s.hi = s := rfl
  refine pcalls_by Try.mixes spSl_ok (fn := Try.f67) Try.func67 rfl (by kernel_rfl) (by show 2 ≤ _; decide) ?_
  simp (decide := true) (maxSteps := 4000000) only [go_sem, Nat.reduceAdd, Nat.reduceSub, Nat.reduceMul, Nat.reduceDiv, Nat.reduceMod, Nat.reduceLT, Nat.reduceLeDiff, Nat.reduceEqDiff, Nat.reduceBEq, Nat.reduceBNe, Nat.reduceGT, Int.reduceAdd, Int.reduceSub, Int.reduceMul, Int.reduceNeg, Int.reduceLT, Int.reduceLE, Int.reduceEq, Int.reduceNe, Int.reduceBEq, Int.reduceBNe, Int.reduceToNat, Int.reduceGT, Int.reduceGE, ↓reduceIte, decide_true, decide_false, eq_self, Nat.mul_one, Nat.zero_mul, Nat.one_mul, Int.le_refl, Nat.le_refl, Int.cast_ofNat_Int, Try.f67]
  refine pwpC_loopU (A := { k : Nat // k ≤ 1 }) [0, 1, 4, 8, 9] (fun k => [(10, .t (.int .i64 k.1)), (5, .t (.int .i64 (if k.1 = 0 then 0 else max 0 (wid s))))]) (fun _ => []) (fun k => 1 - k.1) ⟨0, by omega⟩ (by decide) (fun _ => by rfl) ?_ fun Q1 hQ1 ⟨k, hk⟩ I1 hI1 => ?_
  · simp (decide := true) (maxSteps := 4000000) only [go_sem, Nat.reduceAdd, Nat.reduceSub, Nat.reduceMul, Nat.reduceDiv, Nat.reduceMod, Nat.reduceLT, Nat.reduceLeDiff, Nat.reduceEqDiff, Nat.reduceBEq, Nat.reduceBNe, Nat.reduceGT, Int.reduceAdd, Int.reduceSub, Int.reduceMul, Int.reduceNeg, Int.reduceLT, Int.reduceLE, Int.reduceEq, Int.reduceNe, Int.reduceBEq, Int.reduceBNe, Int.reduceToNat, Int.reduceGT, Int.reduceGE, ↓reduceIte, decide_true, decide_false, eq_self, Nat.mul_one, Nat.zero_mul, Nat.one_mul, Int.le_refl, Nat.le_refl, Int.cast_ofNat_Int]
  · rcases (show k = 0 ∨ k = 1 by omega) with rfl | rfl
    · have c1 : (0 : Int) < 1 := by decide
      have w : IntKind.i64.wrap 1 = 1 := rfl
      simp (decide := true) (maxSteps := 4000000) only [go_sem, Nat.reduceAdd, Nat.reduceSub, Nat.reduceMul, Nat.reduceDiv, Nat.reduceMod, Nat.reduceLT, Nat.reduceLeDiff, Nat.reduceEqDiff, Nat.reduceBEq, Nat.reduceBNe, Nat.reduceGT, Int.reduceAdd, Int.reduceSub, Int.reduceMul, Int.reduceNeg, Int.reduceLT, Int.reduceLE, Int.reduceEq, Int.reduceNe, Int.reduceBEq, Int.reduceBNe, Int.reduceToNat, Int.reduceGT, Int.reduceGE, ↓reduceIte, decide_true, decide_false, eq_self, Nat.mul_one, Nat.zero_mul, Nat.one_mul, Int.le_refl, Nat.le_refl, Int.cast_ofNat_Int, e0, h, c1]
      refine hI1 _ ⟨1, by omega⟩ (by simp only; omega) ?_
      simp (decide := true) (maxSteps := 4000000) only [go_sem, Nat.reduceAdd, Nat.reduceSub, Nat.reduceMul, Nat.reduceDiv, Nat.reduceMod, Nat.reduceLT, Nat.reduceLeDiff, Nat.reduceEqDiff, Nat.reduceBEq, Nat.reduceBNe, Nat.reduceGT, Int.reduceAdd, Int.reduceSub, Int.reduceMul, Int.reduceNeg, Int.reduceLT, Int.reduceLE, Int.reduceEq, Int.reduceNe, Int.reduceBEq, Int.reduceBNe, Int.reduceToNat, Int.reduceGT, Int.reduceGE, ↓reduceIte, decide_true, decide_false, eq_self, Nat.mul_one, Nat.zero_mul, Nat.one_mul, Int.le_refl, Nat.le_refl, Int.cast_ofNat_Int, w, wid]
    · simp (decide := true) (maxSteps := 4000000) only [go_sem, Nat.reduceAdd, Nat.reduceSub, Nat.reduceMul, Nat.reduceDiv, Nat.reduceMod, Nat.reduceLT, Nat.reduceLeDiff, Nat.reduceEqDiff, Nat.reduceBEq, Nat.reduceBNe, Nat.reduceGT, Int.reduceAdd, Int.reduceSub, Int.reduceMul, Int.reduceNeg, Int.reduceLT, Int.reduceLE, Int.reduceEq, Int.reduceNe, Int.reduceBEq, Int.reduceBNe, Int.reduceToNat, Int.reduceGT, Int.reduceGE, ↓reduceIte, decide_true, decide_false, eq_self, Nat.mul_one, Nat.zero_mul, Nat.one_mul, Int.le_refl, Nat.le_refl, Int.cast_ofNat_Int]
      refine hQ1 _ _ ?_
      simp (decide := true) (maxSteps := 4000000) only [go_sem, Nat.reduceAdd, Nat.reduceSub, Nat.reduceMul, Nat.reduceDiv, Nat.reduceMod, Nat.reduceLT, Nat.reduceLeDiff, Nat.reduceEqDiff, Nat.reduceBEq, Nat.reduceBNe, Nat.reduceGT, Int.reduceAdd, Int.reduceSub, Int.reduceMul, Int.reduceNeg, Int.reduceLT, Int.reduceLE, Int.reduceEq, Int.reduceNe, Int.reduceBEq, Int.reduceBNe, Int.reduceToNat, Int.reduceGT, Int.reduceGE, ↓reduceIte, decide_true, decide_false, eq_self, Nat.mul_one, Nat.zero_mul, Nat.one_mul, Int.le_refl, Nat.le_refl, Int.cast_ofNat_Int]
noncomputable def sxWidest : List TV → Option TV
  | [.fn F [] [], .sl [.int .i64 a, .int .i64 b] 1 f] => if F = 68 ∧ bdB ⟨a, b⟩ = true then some (.int .i64 (max 0 (b - a))) else none
  | _ => none
theorem sxWidest_ok : ∀ xs r, sxWidest xs = some r → PCalls Try.prog 67 xs r := by
  intro xs r h
  unfold sxWidest at h
  split at h
  · split at h
    · rename_i hc; cases h; exact (by obtain ⟨rfl, hc⟩ := hc; exact sWidest_c ⟨_, _⟩ _ hc)
    · cases h
  · cases h
attribute [go_sem] sxWidest
noncomputable def spSm : Pm.Spec := Spec.oneH 66 sxReading { (((((spSl.one 67 sxWidest).one 65 sxAdded).one 17 sxCheck).one 69 sxTable2)) with mu := fun t => t == 97, fr := fun f => f == 65 }
@[go_sem] theorem spSm_p (f : FuncId) (xs : List TV) : spSm.p f xs = Pm.Spec.p (Spec.oneH 66 sxReading { (((((spSl.one 67 sxWidest).one 65 sxAdded).one 17 sxCheck).one 69 sxTable2)) with mu := fun t => t == 97, fr := fun f => f == 65 }) f xs := rfl
@[go_sem] theorem spSm_h (f : FuncId) (ps : List PV) (hl : List PO) : spSm.h f ps hl = Pm.Spec.h (Spec.oneH 66 sxReading { (((((spSl.one 67 sxWidest).one 65 sxAdded).one 17 sxCheck).one 69 sxTable2)) with mu := fun t => t == 97, fr := fun f => f == 65 }) f ps hl := rfl
@[go_sem] theorem spSm_fz (f : FuncId) : spSm.fz f = Pm.Spec.fz (Spec.oneH 66 sxReading { (((((spSl.one 67 sxWidest).one 65 sxAdded).one 17 sxCheck).one 69 sxTable2)) with mu := fun t => t == 97, fr := fun f => f == 65 }) f := rfl
@[go_sem] theorem spSm_fr (f : FuncId) : spSm.fr f = Pm.Spec.fr (Spec.oneH 66 sxReading { (((((spSl.one 67 sxWidest).one 65 sxAdded).one 17 sxCheck).one 69 sxTable2)) with mu := fun t => t == 97, fr := fun f => f == 65 }) f := rfl
@[go_sem] theorem spSm_mu (t : TypeId) : spSm.mu t = Pm.Spec.mu (Spec.oneH 66 sxReading { (((((spSl.one 67 sxWidest).one 65 sxAdded).one 17 sxCheck).one 69 sxTable2)) with mu := fun t => t == 97, fr := fun f => f == 65 }) t := rfl
@[go_sem] theorem spSm_nf (t : TypeId) : spSm.nf t = Pm.Spec.nf (Spec.oneH 66 sxReading { (((((spSl.one 67 sxWidest).one 65 sxAdded).one 17 sxCheck).one 69 sxTable2)) with mu := fun t => t == 97, fr := fun f => f == 65 }) t := rfl
theorem spSm_ok : SpecOk Try.prog spSm := Spec.oneH_ok sxReading_ok ⟨(Spec.one_ok sxTable2_ok (Spec.one_ok sxCheck_ok (Spec.one_ok sxAdded_ok (Spec.one_ok sxWidest_ok spSl_ok)))).1, (Spec.one_ok sxTable2_ok (Spec.one_ok sxCheck_ok (Spec.one_ok sxAdded_ok (Spec.one_ok sxWidest_ok spSl_ok)))).2⟩
theorem sClass_c (x : Sx) {sT sS : TV} (hT : IsRow Span.cs sT x.tab) (hS : IsRow Span.cs sS x.shade) (lT : x.tab.length ≤ 9000000000000) (lS : x.shade.length ≤ 9000000000000) : PCalls Try.prog 19 [x.t sT sS] (.tup [.int .i64 (classP x).1, .int .i64 (classP x).2.1, .int .i64 (classP x).2.2]) := by
  have rT := rowS_is hT
  have rS := rowS_is hS
  unfold rowL at rT rS
  simp only [unS_nil] at rT rS
  have e0 : Sx.mk x.step x.tab ⟨x.idx.lo, x.idx.hi⟩ x.wrong x.shade = x := rfl
  refine pcalls_by Try.mixes spSm_ok (fn := Try.f19) Try.func19 rfl (by kernel_rfl) (by show 1 ≤ _; decide) ?_
  unfold classP
  cases hv : sxOk x with
  | false =>
    have b : ((50 : Int) != 0) = true := rfl
    simp (decide := true) (maxSteps := 4000000) only [go_sem, Nat.reduceAdd, Nat.reduceSub, Nat.reduceMul, Nat.reduceDiv, Nat.reduceMod, Nat.reduceLT, Nat.reduceLeDiff, Nat.reduceEqDiff, Nat.reduceBEq, Nat.reduceBNe, Nat.reduceGT, Int.reduceAdd, Int.reduceSub, Int.reduceMul, Int.reduceNeg, Int.reduceLT, Int.reduceLE, Int.reduceEq, Int.reduceNe, Int.reduceBEq, Int.reduceBNe, Int.reduceToNat, Int.reduceGT, Int.reduceGE, ↓reduceIte, decide_true, decide_false, eq_self, Nat.mul_one, Nat.zero_mul, Nat.one_mul, Int.le_refl, Nat.le_refl, Int.cast_ofNat_Int, Try.f19, Sx.t, Sx.cs, rT, rS, lT, lS, e0, hv, b]
  | true =>
    have h := sxOk_iff.1 hv
    have h6 := h.sh
    have hp := pow_len h6
    obtain ⟨f, rfl⟩ := good_T h hT
    have b : ((0 : Int) != 0) = false := rfl
    have hN : ∃ N : Int, (∃ cs n g, sS = .sl cs n g ∧ N = n) ∨ sS = .nilSl ∧ N = 0 := by
      rcases hS with ⟨rfl, _⟩ | ⟨g, rfl⟩
      · exact ⟨0, .inr ⟨rfl, rfl⟩⟩
      · exact ⟨_, .inl ⟨_, _, _, rfl, rfl⟩⟩
    have hsh : IntKind.i64.wrap (1 * 2 ^ min x.shade.length 64) = ((allSh x + 1 : Nat) : Int) := by
      have e1 : 1 ≤ 2 ^ x.shade.length := Nat.pow_pos (by omega)
      have e2 : ((2 ^ x.shade.length : Nat) : Int) = (2 : Int) ^ x.shade.length := by simp
      unfold allSh
      rw [Nat.min_eq_left (by omega), Int.one_mul, wrap_in (by omega) (by omega), ← e2]; omega
    have hall : allSh x < 64 := by
      have e2 : ((2 ^ x.shade.length : Nat) : Int) = (2 : Int) ^ x.shade.length := by simp
      unfold allSh; omega
    have hw : IntKind.i64.wrap (((allSh x + 1 : Nat) : Int) - 1) = (allSh x : Int) := by rw [wrap_in (by omega) (by omega)]; omega
    have hset : 0 ≤ (allSh x : Int) ∧ (allSh x : Int) < 64 := by omega
    have hln := shA_len x (allSh x) x.shade.length
    obtain ⟨L, hL⟩ : ∃ L, shA x (allSh x) x.shade.length = L := ⟨_, rfl⟩
    have hLok := shA_ok h (allSh x) 0 x.shade.length (Nat.le_refl _)
    have hLs := shA_sum x (allSh x) 0 x.shade.length
    rw [hL] at hln hLok hLs
    have hfl : ((L.flatMap Ad.cs).map PV.t).length = L.length := by rw [List.length_map, flat_len Ad.cs (n := 1) (fun _ => rfl), Nat.mul_one]
    obtain ⟨L', hL'⟩ : ∃ L', L ++ [.fix x.idx] = L' := ⟨_, rfl⟩
    have hll : L.length + 1 = L'.length := by rw [← hL']; simp
    have hm : L'.length * 16 ≤ 140737488355328 := by omega
    have hcat : List.map PV.t (L.flatMap Ad.cs) ++ [.t (.ifc 99 (.agg [.int .i64 x.idx.lo, .int .i64 x.idx.hi]))] = List.map PV.t (L'.flatMap Ad.cs) := by
      rw [← hL', List.flatMap_append, List.map_append]; rfl
    have htk : List.take L'.length (L'.flatMap Ad.cs) = L'.flatMap Ad.cs := List.take_of_length_le (by rw [flat_len Ad.cs (n := 1) (fun _ => rfl)]; omega)
    have hlen : (List.map PV.t (L'.flatMap Ad.cs)).length = L'.length := by rw [List.length_map, flat_len Ad.cs (n := 1) (fun _ => rfl), Nat.mul_one]
    have hlen2 : (L'.flatMap Ad.cs).length = L'.length := by rw [flat_len Ad.cs (n := 1) (fun _ => rfl), Nat.mul_one]
    have h16 : L'.length ≤ 16 := by omega
    have hok : L'.all (Ad.ok 0) = true := by
      have h2 : bdB x.idx = true := bdB_iff.2 (by have := h.idx; omega)
      rw [← hL', List.all_append, hLok]
      simp [Ad.ok, h2]
    obtain ⟨R, hR⟩ : ∃ R, addS (shs x (allSh x)) x.idx = R := ⟨_, rfl⟩
    have hsum : sumL (L'.map (·.at' 0)) = R := by
      rw [← hL', List.map_append, List.map_singleton, sumL_snoc, hLs, ← hR]; rfl
    have hRw : wid R = rest x := by rw [← hR]; rfl
    have hRb : bdB R = true := by
      rw [← hR, bdB_iff]
      have := shs_b h (allSh x)
      have := h.idx
      simp only [addS]; omega
    have hmain : ∀ sS', sS' = sS → True := fun _ _ => trivial
    have hl0 : ¬ (x.shade.length : Int) < 0 := by omega
    have hsh0 : x.shade.length = 0 → IntKind.i64.wrap (1 * 2 ^ min 0 64) = ((allSh x + 1 : Nat) : Int) := fun e => by rw [← hsh, e]
    have hfb := fltTo_b h
    have hrb := rest_b h
    have htok : ∀ k, k < x.tab.length → Ad.ok ((k : Int) * x.step) (.tab x.step x.tab f) = true := fun k hk => by
      obtain ⟨a1, a2, a3⟩ := at_b h hk
      have h4 : inB x.step 1 72000 = true := inB_iff.2 h.st
      have h5 : (decide (1 ≤ x.tab.length ∧ x.tab.length ≤ 9000000000000)) = true := decide_eq_true (by have := h.len; omega)
      have h6 : x.tab.all (spannedB · (-600) 600) = true := List.all_eq_true.2 fun s hs => spannedB_iff.2 (h.tab s hs)
      have h7 : decide (0 ≤ (k : Int) * x.step ∧ (k : Int) * x.step ≤ 504000) = true := decide_eq_true (by omega)
      have h8 : decide ((k : Int) * x.step ≤ x.step * (x.tab.length - 1)) = true := decide_eq_true a2
      simp only [Ad.ok, h4, h5, h6, h7, h8, Bool.and_self]
    rcases hS with ⟨rfl, hS⟩ | ⟨g, rfl⟩
    · have e := hsh0 (by rw [hS]; rfl)
      simp (decide := true) (maxSteps := 4000000) only [go_sem, Nat.reduceAdd, Nat.reduceSub, Nat.reduceMul, Nat.reduceDiv, Nat.reduceMod, Nat.reduceLT, Nat.reduceLeDiff, Nat.reduceEqDiff, Nat.reduceBEq, Nat.reduceBNe, Nat.reduceGT, Int.reduceAdd, Int.reduceSub, Int.reduceMul, Int.reduceNeg, Int.reduceLT, Int.reduceLE, Int.reduceEq, Int.reduceNe, Int.reduceBEq, Int.reduceBNe, Int.reduceToNat, Int.reduceGT, Int.reduceGE, ↓reduceIte, decide_true, decide_false, eq_self, Nat.mul_one, Nat.zero_mul, Nat.one_mul, Int.le_refl, Nat.le_refl, Int.cast_ofNat_Int, Try.f19, Sx.t, Sx.cs, rS, lT, lS, e0, hv, b, unS_eq, e, hw, hset, Int.toNat_natCast, hL, rdV, rdO, hfl, hll, hm, hcat, freezeW, freezeO, closedG, seenF, wr, upo, htk, hlen, hlen2, h16, hok, hsum, List.drop_zero, Nat.mul_one, Nat.zero_add, Nat.zero_mul, Span.t, Span.cs, IntKind.bits]
      refine pwpC_loopU (A := { k : Nat // k ≤ x.tab.length }) [6, 7, 8, 42] (fun k => [(43, .t (.int .i64 k.1)), (3, .t (.int .i64 (fltTo x k.1)))]) (fun _ => []) (fun k => x.tab.length - k.1) ⟨0, by omega⟩ (by decide) (fun _ => by rfl) ?_ fun Q1 hQ1 ⟨k, hk⟩ I1 hI1 => ?_
      · simp (decide := true) (maxSteps := 4000000) only [go_sem, Nat.reduceAdd, Nat.reduceSub, Nat.reduceMul, Nat.reduceDiv, Nat.reduceMod, Nat.reduceLT, Nat.reduceLeDiff, Nat.reduceEqDiff, Nat.reduceBEq, Nat.reduceBNe, Nat.reduceGT, Int.reduceAdd, Int.reduceSub, Int.reduceMul, Int.reduceNeg, Int.reduceLT, Int.reduceLE, Int.reduceEq, Int.reduceNe, Int.reduceBEq, Int.reduceBNe, Int.reduceToNat, Int.reduceGT, Int.reduceGE, ↓reduceIte, decide_true, decide_false, eq_self, Nat.mul_one, Nat.zero_mul, Nat.one_mul, Int.le_refl, Nat.le_refl, Int.cast_ofNat_Int, fltTo, List.range_zero]
      · by_cases hlt : (k : Int) < x.tab.length
        · have hkl : k < x.tab.length := by omega
          have hc1 : IntKind.i64.wrap (k + 1) = ((k + 1 : Nat) : Int) := by rw [wrap_in (by omega) (by omega)]; omega
          obtain ⟨a1, a2, a3⟩ := at_b h hkl
          have w1 : IntKind.i64.wrap ((k : Int) * x.step) = (k : Int) * x.step := wrap_in (by omega) (by omega)
          have hce := corr_at h hkl
          have hat := h.tab _ (atS_mem hkl)
          have hbd : bdB (atS x.tab k) = true := bdB_iff.2 (by omega)
          have hbd' : bdB ⟨(atS x.tab k).lo, (atS x.tab k).hi⟩ = true := hbd
          have hnx : max (fltTo x k) (max 0 ((atS x.tab k).hi - (atS x.tab k).lo)) = fltTo x (k + 1) := by
            rw [fltTo_succ]; have := hfb k hk; unfold wid; omega
          simp (decide := true) (maxSteps := 4000000) only [go_sem, Nat.reduceAdd, Nat.reduceSub, Nat.reduceMul, Nat.reduceDiv, Nat.reduceMod, Nat.reduceLT, Nat.reduceLeDiff, Nat.reduceEqDiff, Nat.reduceBEq, Nat.reduceBNe, Nat.reduceGT, Int.reduceAdd, Int.reduceSub, Int.reduceMul, Int.reduceNeg, Int.reduceLT, Int.reduceLE, Int.reduceEq, Int.reduceNe, Int.reduceBEq, Int.reduceBNe, Int.reduceToNat, Int.reduceGT, Int.reduceGE, ↓reduceIte, decide_true, decide_false, eq_self, Nat.mul_one, Nat.zero_mul, Nat.one_mul, Int.le_refl, Nat.le_refl, Int.cast_ofNat_Int, hlt, w1, unS_eq, htok k hkl, hce, Span.t, Span.cs, hbd']
          refine hI1 _ ⟨k + 1, by omega⟩ (by simp only; omega) ?_
          simp (decide := true) (maxSteps := 4000000) only [go_sem, Nat.reduceAdd, Nat.reduceSub, Nat.reduceMul, Nat.reduceDiv, Nat.reduceMod, Nat.reduceLT, Nat.reduceLeDiff, Nat.reduceEqDiff, Nat.reduceBEq, Nat.reduceBNe, Nat.reduceGT, Int.reduceAdd, Int.reduceSub, Int.reduceMul, Int.reduceNeg, Int.reduceLT, Int.reduceLE, Int.reduceEq, Int.reduceNe, Int.reduceBEq, Int.reduceBNe, Int.reduceToNat, Int.reduceGT, Int.reduceGE, ↓reduceIte, decide_true, decide_false, eq_self, Nat.mul_one, Nat.zero_mul, Nat.one_mul, Int.le_refl, Nat.le_refl, Int.cast_ofNat_Int, hc1, hnx]
        · have hke : k = x.tab.length := by omega
          subst hke
          simp (decide := true) (maxSteps := 4000000) only [go_sem, Nat.reduceAdd, Nat.reduceSub, Nat.reduceMul, Nat.reduceDiv, Nat.reduceMod, Nat.reduceLT, Nat.reduceLeDiff, Nat.reduceEqDiff, Nat.reduceBEq, Nat.reduceBNe, Nat.reduceGT, Int.reduceAdd, Int.reduceSub, Int.reduceMul, Int.reduceNeg, Int.reduceLT, Int.reduceLE, Int.reduceEq, Int.reduceNe, Int.reduceBEq, Int.reduceBNe, Int.reduceToNat, Int.reduceGT, Int.reduceGE, ↓reduceIte, decide_true, decide_false, eq_self, Nat.mul_one, Nat.zero_mul, Nat.one_mul, Int.le_refl, Nat.le_refl, Int.cast_ofNat_Int, hlt]
          refine hQ1 _ _ ?_
          have hRb' : bdB ⟨R.lo, R.hi⟩ = true := hRb
          have hf := hfb x.tab.length (Nat.le_refl _)
          have w2 : IntKind.i64.wrap (fltTo x x.tab.length + (R.hi - R.lo)) = fault x := by
            have : R.hi - R.lo = rest x := hRw
            rw [this]; exact wrap_in (by omega) (by omega)
          by_cases c1 : fault x ≤ 40
          · simp (decide := true) (maxSteps := 4000000) only [go_sem, Nat.reduceAdd, Nat.reduceSub, Nat.reduceMul, Nat.reduceDiv, Nat.reduceMod, Nat.reduceLT, Nat.reduceLeDiff, Nat.reduceEqDiff, Nat.reduceBEq, Nat.reduceBNe, Nat.reduceGT, Int.reduceAdd, Int.reduceSub, Int.reduceMul, Int.reduceNeg, Int.reduceLT, Int.reduceLE, Int.reduceEq, Int.reduceNe, Int.reduceBEq, Int.reduceBNe, Int.reduceToNat, Int.reduceGT, Int.reduceGE, ↓reduceIte, decide_true, decide_false, eq_self, Nat.mul_one, Nat.zero_mul, Nat.one_mul, Int.le_refl, Nat.le_refl, Int.cast_ofNat_Int, hRb', w2, c1, classOf]
          · by_cases c2 : fault x ≤ 200
            · simp (decide := true) (maxSteps := 4000000) only [go_sem, Nat.reduceAdd, Nat.reduceSub, Nat.reduceMul, Nat.reduceDiv, Nat.reduceMod, Nat.reduceLT, Nat.reduceLeDiff, Nat.reduceEqDiff, Nat.reduceBEq, Nat.reduceBNe, Nat.reduceGT, Int.reduceAdd, Int.reduceSub, Int.reduceMul, Int.reduceNeg, Int.reduceLT, Int.reduceLE, Int.reduceEq, Int.reduceNe, Int.reduceBEq, Int.reduceBNe, Int.reduceToNat, Int.reduceGT, Int.reduceGE, ↓reduceIte, decide_true, decide_false, eq_self, Nat.mul_one, Nat.zero_mul, Nat.one_mul, Int.le_refl, Nat.le_refl, Int.cast_ofNat_Int, hRb', w2, c1, c2, classOf]
            · simp (decide := true) (maxSteps := 4000000) only [go_sem, Nat.reduceAdd, Nat.reduceSub, Nat.reduceMul, Nat.reduceDiv, Nat.reduceMod, Nat.reduceLT, Nat.reduceLeDiff, Nat.reduceEqDiff, Nat.reduceBEq, Nat.reduceBNe, Nat.reduceGT, Int.reduceAdd, Int.reduceSub, Int.reduceMul, Int.reduceNeg, Int.reduceLT, Int.reduceLE, Int.reduceEq, Int.reduceNe, Int.reduceBEq, Int.reduceBNe, Int.reduceToNat, Int.reduceGT, Int.reduceGE, ↓reduceIte, decide_true, decide_false, eq_self, Nat.mul_one, Nat.zero_mul, Nat.one_mul, Int.le_refl, Nat.le_refl, Int.cast_ofNat_Int, hRb', w2, c1, c2, classOf]
    · simp (decide := true) (maxSteps := 4000000) only [go_sem, Nat.reduceAdd, Nat.reduceSub, Nat.reduceMul, Nat.reduceDiv, Nat.reduceMod, Nat.reduceLT, Nat.reduceLeDiff, Nat.reduceEqDiff, Nat.reduceBEq, Nat.reduceBNe, Nat.reduceGT, Int.reduceAdd, Int.reduceSub, Int.reduceMul, Int.reduceNeg, Int.reduceLT, Int.reduceLE, Int.reduceEq, Int.reduceNe, Int.reduceBEq, Int.reduceBNe, Int.reduceToNat, Int.reduceGT, Int.reduceGE, ↓reduceIte, decide_true, decide_false, eq_self, Nat.mul_one, Nat.zero_mul, Nat.one_mul, Int.le_refl, Nat.le_refl, Int.cast_ofNat_Int, Try.f19, Sx.t, Sx.cs, lT, lS, e0, hv, b, unS_eq, hl0, hsh, hw, hset, Int.toNat_natCast, hL, rdV, rdO, hfl, hll, hm, hcat, freezeW, freezeO, closedG, seenF, wr, upo, htk, hlen, hlen2, h16, hok, hsum, List.drop_zero, Nat.mul_one, Nat.zero_add, Nat.zero_mul, Span.t, Span.cs, IntKind.bits]
      refine pwpC_loopU (A := { k : Nat // k ≤ x.tab.length }) [6, 7, 8, 42] (fun k => [(43, .t (.int .i64 k.1)), (3, .t (.int .i64 (fltTo x k.1)))]) (fun _ => []) (fun k => x.tab.length - k.1) ⟨0, by omega⟩ (by decide) (fun _ => by rfl) ?_ fun Q1 hQ1 ⟨k, hk⟩ I1 hI1 => ?_
      · simp (decide := true) (maxSteps := 4000000) only [go_sem, Nat.reduceAdd, Nat.reduceSub, Nat.reduceMul, Nat.reduceDiv, Nat.reduceMod, Nat.reduceLT, Nat.reduceLeDiff, Nat.reduceEqDiff, Nat.reduceBEq, Nat.reduceBNe, Nat.reduceGT, Int.reduceAdd, Int.reduceSub, Int.reduceMul, Int.reduceNeg, Int.reduceLT, Int.reduceLE, Int.reduceEq, Int.reduceNe, Int.reduceBEq, Int.reduceBNe, Int.reduceToNat, Int.reduceGT, Int.reduceGE, ↓reduceIte, decide_true, decide_false, eq_self, Nat.mul_one, Nat.zero_mul, Nat.one_mul, Int.le_refl, Nat.le_refl, Int.cast_ofNat_Int, fltTo, List.range_zero]
      · by_cases hlt : (k : Int) < x.tab.length
        · have hkl : k < x.tab.length := by omega
          have hc1 : IntKind.i64.wrap (k + 1) = ((k + 1 : Nat) : Int) := by rw [wrap_in (by omega) (by omega)]; omega
          obtain ⟨a1, a2, a3⟩ := at_b h hkl
          have w1 : IntKind.i64.wrap ((k : Int) * x.step) = (k : Int) * x.step := wrap_in (by omega) (by omega)
          have hce := corr_at h hkl
          have hat := h.tab _ (atS_mem hkl)
          have hbd : bdB (atS x.tab k) = true := bdB_iff.2 (by omega)
          have hbd' : bdB ⟨(atS x.tab k).lo, (atS x.tab k).hi⟩ = true := hbd
          have hnx : max (fltTo x k) (max 0 ((atS x.tab k).hi - (atS x.tab k).lo)) = fltTo x (k + 1) := by
            rw [fltTo_succ]; have := hfb k hk; unfold wid; omega
          simp (decide := true) (maxSteps := 4000000) only [go_sem, Nat.reduceAdd, Nat.reduceSub, Nat.reduceMul, Nat.reduceDiv, Nat.reduceMod, Nat.reduceLT, Nat.reduceLeDiff, Nat.reduceEqDiff, Nat.reduceBEq, Nat.reduceBNe, Nat.reduceGT, Int.reduceAdd, Int.reduceSub, Int.reduceMul, Int.reduceNeg, Int.reduceLT, Int.reduceLE, Int.reduceEq, Int.reduceNe, Int.reduceBEq, Int.reduceBNe, Int.reduceToNat, Int.reduceGT, Int.reduceGE, ↓reduceIte, decide_true, decide_false, eq_self, Nat.mul_one, Nat.zero_mul, Nat.one_mul, Int.le_refl, Nat.le_refl, Int.cast_ofNat_Int, hlt, w1, unS_eq, htok k hkl, hce, Span.t, Span.cs, hbd']
          refine hI1 _ ⟨k + 1, by omega⟩ (by simp only; omega) ?_
          simp (decide := true) (maxSteps := 4000000) only [go_sem, Nat.reduceAdd, Nat.reduceSub, Nat.reduceMul, Nat.reduceDiv, Nat.reduceMod, Nat.reduceLT, Nat.reduceLeDiff, Nat.reduceEqDiff, Nat.reduceBEq, Nat.reduceBNe, Nat.reduceGT, Int.reduceAdd, Int.reduceSub, Int.reduceMul, Int.reduceNeg, Int.reduceLT, Int.reduceLE, Int.reduceEq, Int.reduceNe, Int.reduceBEq, Int.reduceBNe, Int.reduceToNat, Int.reduceGT, Int.reduceGE, ↓reduceIte, decide_true, decide_false, eq_self, Nat.mul_one, Nat.zero_mul, Nat.one_mul, Int.le_refl, Nat.le_refl, Int.cast_ofNat_Int, hc1, hnx]
        · have hke : k = x.tab.length := by omega
          subst hke
          simp (decide := true) (maxSteps := 4000000) only [go_sem, Nat.reduceAdd, Nat.reduceSub, Nat.reduceMul, Nat.reduceDiv, Nat.reduceMod, Nat.reduceLT, Nat.reduceLeDiff, Nat.reduceEqDiff, Nat.reduceBEq, Nat.reduceBNe, Nat.reduceGT, Int.reduceAdd, Int.reduceSub, Int.reduceMul, Int.reduceNeg, Int.reduceLT, Int.reduceLE, Int.reduceEq, Int.reduceNe, Int.reduceBEq, Int.reduceBNe, Int.reduceToNat, Int.reduceGT, Int.reduceGE, ↓reduceIte, decide_true, decide_false, eq_self, Nat.mul_one, Nat.zero_mul, Nat.one_mul, Int.le_refl, Nat.le_refl, Int.cast_ofNat_Int, hlt]
          refine hQ1 _ _ ?_
          have hRb' : bdB ⟨R.lo, R.hi⟩ = true := hRb
          have hf := hfb x.tab.length (Nat.le_refl _)
          have w2 : IntKind.i64.wrap (fltTo x x.tab.length + (R.hi - R.lo)) = fault x := by
            have : R.hi - R.lo = rest x := hRw
            rw [this]; exact wrap_in (by omega) (by omega)
          by_cases c1 : fault x ≤ 40
          · simp (decide := true) (maxSteps := 4000000) only [go_sem, Nat.reduceAdd, Nat.reduceSub, Nat.reduceMul, Nat.reduceDiv, Nat.reduceMod, Nat.reduceLT, Nat.reduceLeDiff, Nat.reduceEqDiff, Nat.reduceBEq, Nat.reduceBNe, Nat.reduceGT, Int.reduceAdd, Int.reduceSub, Int.reduceMul, Int.reduceNeg, Int.reduceLT, Int.reduceLE, Int.reduceEq, Int.reduceNe, Int.reduceBEq, Int.reduceBNe, Int.reduceToNat, Int.reduceGT, Int.reduceGE, ↓reduceIte, decide_true, decide_false, eq_self, Nat.mul_one, Nat.zero_mul, Nat.one_mul, Int.le_refl, Nat.le_refl, Int.cast_ofNat_Int, hRb', w2, c1, classOf]
          · by_cases c2 : fault x ≤ 200
            · simp (decide := true) (maxSteps := 4000000) only [go_sem, Nat.reduceAdd, Nat.reduceSub, Nat.reduceMul, Nat.reduceDiv, Nat.reduceMod, Nat.reduceLT, Nat.reduceLeDiff, Nat.reduceEqDiff, Nat.reduceBEq, Nat.reduceBNe, Nat.reduceGT, Int.reduceAdd, Int.reduceSub, Int.reduceMul, Int.reduceNeg, Int.reduceLT, Int.reduceLE, Int.reduceEq, Int.reduceNe, Int.reduceBEq, Int.reduceBNe, Int.reduceToNat, Int.reduceGT, Int.reduceGE, ↓reduceIte, decide_true, decide_false, eq_self, Nat.mul_one, Nat.zero_mul, Nat.one_mul, Int.le_refl, Nat.le_refl, Int.cast_ofNat_Int, hRb', w2, c1, c2, classOf]
            · simp (decide := true) (maxSteps := 4000000) only [go_sem, Nat.reduceAdd, Nat.reduceSub, Nat.reduceMul, Nat.reduceDiv, Nat.reduceMod, Nat.reduceLT, Nat.reduceLeDiff, Nat.reduceEqDiff, Nat.reduceBEq, Nat.reduceBNe, Nat.reduceGT, Int.reduceAdd, Int.reduceSub, Int.reduceMul, Int.reduceNeg, Int.reduceLT, Int.reduceLE, Int.reduceEq, Int.reduceNe, Int.reduceBEq, Int.reduceBNe, Int.reduceToNat, Int.reduceGT, Int.reduceGE, ↓reduceIte, decide_true, decide_false, eq_self, Nat.mul_one, Nat.zero_mul, Nat.one_mul, Int.le_refl, Nat.le_refl, Int.cast_ofNat_Int, hRb', w2, c1, c2, classOf]
noncomputable def sxClass : List TV → Option TV
  | [.agg [.int .i64 a0, sT, .int .i64 a1, .int .i64 a2, .int .i64 a3, sS]] => match rowL unS sT, rowL unS sS with
    | some tab, some shade => if tab.length ≤ 9000000000000 ∧ shade.length ≤ 9000000000000 then some (.tup [.int .i64 (classP (⟨a0, tab, ⟨a1, a2⟩, a3, shade⟩ : Sx)).1, .int .i64 (classP (⟨a0, tab, ⟨a1, a2⟩, a3, shade⟩ : Sx)).2.1, .int .i64 (classP (⟨a0, tab, ⟨a1, a2⟩, a3, shade⟩ : Sx)).2.2]) else none
    | _, _ => none
  | _ => none
theorem sxClass_ok : ∀ xs r, sxClass xs = some r → PCalls Try.prog 19 xs r := by
  intro xs r h
  unfold sxClass at h
  split at h
  · split at h
    · rename_i tab shade hT hS
      have hT := rowL_some (un := unS) unS_nil (@unS_some) hT
      have hS := rowL_some (un := unS) unS_nil (@unS_some) hS
      split at h
      · rename_i hc; cases h; exact sClass_c ⟨_, tab, ⟨_, _⟩, _, shade⟩ hT hS hc.1 hc.2
      · cases h
    · cases h
  · cases h
attribute [go_sem] sxClass
end Go.Proofs.Ytjmkccckohcfkaa

/- Part Sg. -/
namespace Go.Os
open Go Go.Pm Go.Oc Go.Oh
structure Sun where
  on : Int
  off : Int
def Sun.cs (p : Sun) : List TV := [.int .i64 p.on, .int .i64 p.off]
theorem Sun.cs_inj (x y : Sun) (h : x.cs = y.cs) : x = y := by
  obtain ⟨a, b⟩ := x; obtain ⟨c, d⟩ := y
  simp only [Sun.cs, List.cons.injEq, TV.int.injEq, true_and, and_true] at h
  rw [h.1, h.2]
noncomputable def unSun (cs : List TV) : Option (List Sun) := unflat Sun.cs cs
theorem unSun_eq (l : List Sun) : unSun (l.flatMap Sun.cs) = some l := unflat_eq (n := 2) (fun _ => rfl) (by decide) Sun.cs_inj l
theorem unSun_nil : unSun [] = some [] := unSun_eq []
theorem unSun_some {cs : List TV} {l : List Sun} (h : unSun cs = some l) : cs = l.flatMap Sun.cs := unflat_some h
theorem rowSun_is {s : TV} {l : List Sun} (h : IsRow Sun.cs s l) : rowL unSun s = some l := by
  rcases h with ⟨rfl, rfl⟩ | ⟨f, rfl⟩
  · exact unSun_nil
  · simp [rowL, unSun_eq]
attribute [go_sem] unSun_eq unSun_nil
def onS (w : Int) (p : Sun) (i : Int) (d : Span) : Span := ⟨max d.lo (p.on + i - w), min d.hi (p.on + i + w)⟩
def offS (w : Int) (p : Sun) (i : Int) (d : Span) : Span := ⟨max d.lo (p.off - i - w), min d.hi (p.off - i + w)⟩
/-- What is left of the diameters with an index error, by so many pairs. -/
def narS (w : Int) (l : List Sun) (i : Int) (d : Span) : Span := l.foldl (fun d p => offS w p i (onS w p i d)) d
theorem narS_take {w i : Int} {l : List Sun} {d : Span} {k : Nat} {p : Sun} (h : l[k]? = some p) : narS w (l.take (k + 1)) i d = offS w p i (onS w p i (narS w (l.take k) i d)) := by
  unfold narS; rw [take_snoc h, List.foldl_append]; rfl
structure IR where
  index : Span
  disc : Span
  first : Bool
def idxStep (w : Int) (l : List Sun) (D : Span) (a : IR) (i : Int) : IR :=
  if (narS w l i D).lo ≤ (narS w l i D).hi then ⟨widerS a.index i a.first, widerS (widerS a.disc (narS w l i D).lo a.first) (narS w l i D).hi false, false⟩ else a
def idxTo (x : Sx) (l : List Sun) (D : Span) (k : Nat) : IR := (List.range k).foldl (fun a (i : Nat) => idxStep x.wrong l D a (x.idx.lo + (i : Int))) ⟨⟨0, 0⟩, ⟨0, 0⟩, true⟩
theorem idxTo_succ (x : Sx) (l : List Sun) (D : Span) (k : Nat) : idxTo x l D (k + 1) = idxStep x.wrong l D (idxTo x l D k) (x.idx.lo + (k : Int)) := by unfold idxTo; rw [List.range_succ, List.foldl_append]; rfl
def idxN (x : Sx) : Nat := (x.idx.hi - x.idx.lo + 1).toNat
def idxV (x : Sx) : List (List TV) := (List.range (idxN x)).map fun (i : Nat) => [.int .i64 (x.idx.lo + (i : Int))]
theorem idxV_at {x : Sx} {k : Nat} (h : k < idxN x) : (idxV x)[k]? = some [.int .i64 (x.idx.lo + (k : Int))] := by
  unfold idxV; rw [List.getElem?_map, List.getElem?_range h]; rfl
def sunB (p : Sun) : Bool := inB p.on 0 6000 && inB p.off 0 6000
def sunsOk (D : Span) (l : List Sun) : Bool := spannedB D 1 4000 && (inB l.length 1 6 && l.all sunB)
/-- What Index returns. -/
def indexP (x : Sx) (D : Span) (l : List Sun) : Span × Span × Int :=
  if sxOk x then (if sunsOk D l then (if (idxTo x l D (idxN x)).first then (⟨0, 0⟩, ⟨0, 0⟩, 54) else ((idxTo x l D (idxN x)).index, (idxTo x l D (idxN x)).disc, 0)) else (⟨0, 0⟩, ⟨0, 0⟩, 52)) else (⟨0, 0⟩, ⟨0, 0⟩, 50)
theorem idx_first {x : Sx} {l : List Sun} {D : Span} : ∀ k, (idxTo x l D k).first = true → (idxTo x l D k).index = ⟨0, 0⟩ ∧ (idxTo x l D k).disc = ⟨0, 0⟩
  | 0, _ => ⟨rfl, rfl⟩
  | k + 1, h => by
    rw [idxTo_succ] at h ⊢
    unfold idxStep at h ⊢
    split at h
    · cases h
    · rename_i hc; rw [if_neg hc]; exact idx_first k h
end Go.Os
namespace Go.Proofs.Ytjmkccckohcfkaa
open Go.RowKit Go.Pm Go.Oc Go.Oh Go.Os
set_option maxRecDepth 100000
set_option linter.unusedVariables false
set_option maxHeartbeats 4000000

theorem sBoth_c (a b : Span) : PCalls Try.prog 97 [a.t, b.t] (Span.mk (max a.lo b.lo) (min a.hi b.hi)).t := by
  refine pcalls_by Try.mixes noSpec_ok (fn := Try.f97) Try.func97 rfl (by kernel_rfl) (by show 2 ≤ _; decide) ?_
  simp (decide := true) (maxSteps := 4000000) only [go_sem, Nat.reduceAdd, Nat.reduceSub, Nat.reduceMul, Nat.reduceDiv, Nat.reduceMod, Nat.reduceLT, Nat.reduceLeDiff, Nat.reduceEqDiff, Nat.reduceBEq, Nat.reduceBNe, Nat.reduceGT, Int.reduceAdd, Int.reduceSub, Int.reduceMul, Int.reduceNeg, Int.reduceLT, Int.reduceLE, Int.reduceEq, Int.reduceNe, Int.reduceBEq, Int.reduceBNe, Int.reduceToNat, Int.reduceGT, Int.reduceGE, ↓reduceIte, decide_true, decide_false, eq_self, Nat.mul_one, Nat.zero_mul, Nat.one_mul, Int.le_refl, Nat.le_refl, Int.cast_ofNat_Int, Try.f97, Span.t, Span.cs]
noncomputable def sxBoth : List TV → Option TV
  | [.agg [.int .i64 a, .int .i64 b], .agg [.int .i64 c, .int .i64 d]] => some (.agg [.int .i64 (max a c), .int .i64 (min b d)])
  | _ => none
theorem sxBoth_ok : ∀ xs r, sxBoth xs = some r → PCalls Try.prog 97 xs r := by
  intro xs r h
  unfold sxBoth at h
  split at h
  · cases h; exact sBoth_c ⟨_, _⟩ ⟨_, _⟩
  · cases h
attribute [go_sem] sxBoth
theorem sWider_c (s : Span) (n : Int) (b : Bool) : PCalls Try.prog 73 [s.t, .int .i64 n, .bool b] (widerS s n b).t := by
  refine pcalls_by Try.mixes noSpec_ok (fn := Try.f73) Try.func73 rfl (by kernel_rfl) (by show 3 ≤ _; decide) ?_
  cases b <;> simp (decide := true) (maxSteps := 4000000) only [go_sem, Nat.reduceAdd, Nat.reduceSub, Nat.reduceMul, Nat.reduceDiv, Nat.reduceMod, Nat.reduceLT, Nat.reduceLeDiff, Nat.reduceEqDiff, Nat.reduceBEq, Nat.reduceBNe, Nat.reduceGT, Int.reduceAdd, Int.reduceSub, Int.reduceMul, Int.reduceNeg, Int.reduceLT, Int.reduceLE, Int.reduceEq, Int.reduceNe, Int.reduceBEq, Int.reduceBNe, Int.reduceToNat, Int.reduceGT, Int.reduceGE, ↓reduceIte, decide_true, decide_false, eq_self, Nat.mul_one, Nat.zero_mul, Nat.one_mul, Int.le_refl, Nat.le_refl, Int.cast_ofNat_Int, Try.f73, Span.t, Span.cs, widerS]
noncomputable def sxWider : List TV → Option TV
  | [.agg [.int .i64 a, .int .i64 b], .int .i64 n, .bool c] => some ((widerS ⟨a, b⟩ n c).t)
  | _ => none
theorem sxWider_ok : ∀ xs r, sxWider xs = some r → PCalls Try.prog 73 xs r := by
  intro xs r h
  unfold sxWider at h
  split at h
  · cases h; exact sWider_c ⟨_, _⟩ _ _
  · cases h
attribute [go_sem] sxWider
noncomputable def spGa : Pm.Spec := (noSpec.one 97 sxBoth).one 73 sxWider
@[go_sem] theorem spGa_p (f : FuncId) (xs : List TV) : spGa.p f xs = Pm.Spec.p ((noSpec.one 97 sxBoth).one 73 sxWider) f xs := rfl
@[go_sem] theorem spGa_h (f : FuncId) (ps : List PV) (hl : List PO) : spGa.h f ps hl = Pm.Spec.h ((noSpec.one 97 sxBoth).one 73 sxWider) f ps hl := rfl
@[go_sem] theorem spGa_fz (f : FuncId) : spGa.fz f = Pm.Spec.fz ((noSpec.one 97 sxBoth).one 73 sxWider) f := rfl
@[go_sem] theorem spGa_fr (f : FuncId) : spGa.fr f = Pm.Spec.fr ((noSpec.one 97 sxBoth).one 73 sxWider) f := rfl
@[go_sem] theorem spGa_mu (t : TypeId) : spGa.mu t = Pm.Spec.mu ((noSpec.one 97 sxBoth).one 73 sxWider) t := rfl
@[go_sem] theorem spGa_nf (t : TypeId) : spGa.nf t = Pm.Spec.nf ((noSpec.one 97 sxBoth).one 73 sxWider) t := rfl
theorem spGa_ok : SpecOk Try.prog spGa := Spec.one_ok sxWider_ok (Spec.one_ok sxBoth_ok noSpec_ok)
theorem sOn_c (p : Sun) (w i : Int) (d : Span) (hp : sunB p = true) (hw : 0 ≤ w ∧ w ≤ 60) (hi : -1800 ≤ i ∧ i ≤ 1800) : PCalls Try.prog 70 [.agg [.int .i64 p.on, .int .i64 p.off, .int .i64 w], .int .i64 i, d.t] (onS w p i d).t := by
  unfold sunB at hp
  rw [Bool.and_eq_true, inB_iff, inB_iff] at hp
  have w1 : IntKind.i64.wrap (p.on + i) = p.on + i := wrap_in (by omega) (by omega)
  have w2 : IntKind.i64.wrap (p.on + i - w) = p.on + i - w := wrap_in (by omega) (by omega)
  have w3 : IntKind.i64.wrap (p.on + i + w) = p.on + i + w := wrap_in (by omega) (by omega)
  refine pcalls_by Try.mixes spGa_ok (fn := Try.f70) Try.func70 rfl (by kernel_rfl) (by show 3 ≤ _; decide) ?_
  simp (decide := true) (maxSteps := 4000000) only [go_sem, Nat.reduceAdd, Nat.reduceSub, Nat.reduceMul, Nat.reduceDiv, Nat.reduceMod, Nat.reduceLT, Nat.reduceLeDiff, Nat.reduceEqDiff, Nat.reduceBEq, Nat.reduceBNe, Nat.reduceGT, Int.reduceAdd, Int.reduceSub, Int.reduceMul, Int.reduceNeg, Int.reduceLT, Int.reduceLE, Int.reduceEq, Int.reduceNe, Int.reduceBEq, Int.reduceBNe, Int.reduceToNat, Int.reduceGT, Int.reduceGE, ↓reduceIte, decide_true, decide_false, eq_self, Nat.mul_one, Nat.zero_mul, Nat.one_mul, Int.le_refl, Nat.le_refl, Int.cast_ofNat_Int, Try.f70, Span.t, Span.cs, w1, w2, w3, onS]
theorem sOff_c (p : Sun) (w i : Int) (d : Span) (hp : sunB p = true) (hw : 0 ≤ w ∧ w ≤ 60) (hi : -1800 ≤ i ∧ i ≤ 1800) : PCalls Try.prog 71 [.agg [.int .i64 p.on, .int .i64 p.off, .int .i64 w], .int .i64 i, d.t] (offS w p i d).t := by
  unfold sunB at hp
  rw [Bool.and_eq_true, inB_iff, inB_iff] at hp
  have w1 : IntKind.i64.wrap (p.off - i) = p.off - i := wrap_in (by omega) (by omega)
  have w2 : IntKind.i64.wrap (p.off - i - w) = p.off - i - w := wrap_in (by omega) (by omega)
  have w3 : IntKind.i64.wrap (p.off - i + w) = p.off - i + w := wrap_in (by omega) (by omega)
  refine pcalls_by Try.mixes spGa_ok (fn := Try.f71) Try.func71 rfl (by kernel_rfl) (by show 3 ≤ _; decide) ?_
  simp (decide := true) (maxSteps := 4000000) only [go_sem, Nat.reduceAdd, Nat.reduceSub, Nat.reduceMul, Nat.reduceDiv, Nat.reduceMod, Nat.reduceLT, Nat.reduceLeDiff, Nat.reduceEqDiff, Nat.reduceBEq, Nat.reduceBNe, Nat.reduceGT, Int.reduceAdd, Int.reduceSub, Int.reduceMul, Int.reduceNeg, Int.reduceLT, Int.reduceLE, Int.reduceEq, Int.reduceNe, Int.reduceBEq, Int.reduceBNe, Int.reduceToNat, Int.reduceGT, Int.reduceGE, ↓reduceIte, decide_true, decide_false, eq_self, Nat.mul_one, Nat.zero_mul, Nat.one_mul, Int.le_refl, Nat.le_refl, Int.cast_ofNat_Int, Try.f71, Span.t, Span.cs, w1, w2, w3, offS]
noncomputable def sxOn : List TV → Option TV
  | [.agg [.int .i64 a, .int .i64 b, .int .i64 w], .int .i64 i, .agg [.int .i64 c, .int .i64 d]] => if sunB ⟨a, b⟩ = true ∧ (0 ≤ w ∧ w ≤ 60) ∧ -1800 ≤ i ∧ i ≤ 1800 then some ((onS w ⟨a, b⟩ i ⟨c, d⟩).t) else none
  | _ => none
theorem sxOn_ok : ∀ xs r, sxOn xs = some r → PCalls Try.prog 70 xs r := by
  intro xs r h
  unfold sxOn at h
  split at h
  · split at h
    · rename_i hc; cases h; exact sOn_c ⟨_, _⟩ _ _ ⟨_, _⟩ hc.1 hc.2.1 hc.2.2
    · cases h
  · cases h
attribute [go_sem] sxOn
noncomputable def sxOff : List TV → Option TV
  | [.agg [.int .i64 a, .int .i64 b, .int .i64 w], .int .i64 i, .agg [.int .i64 c, .int .i64 d]] => if sunB ⟨a, b⟩ = true ∧ (0 ≤ w ∧ w ≤ 60) ∧ -1800 ≤ i ∧ i ≤ 1800 then some ((offS w ⟨a, b⟩ i ⟨c, d⟩).t) else none
  | _ => none
theorem sxOff_ok : ∀ xs r, sxOff xs = some r → PCalls Try.prog 71 xs r := by
  intro xs r h
  unfold sxOff at h
  split at h
  · split at h
    · rename_i hc; cases h; exact sOff_c ⟨_, _⟩ _ _ ⟨_, _⟩ hc.1 hc.2.1 hc.2.2
    · cases h
  · cases h
attribute [go_sem] sxOff
noncomputable def spGf : Pm.Spec := { noSpec with fz := fun _ => true }
@[go_sem] theorem spGf_p (f : FuncId) (xs : List TV) : spGf.p f xs = Pm.Spec.p ({ noSpec with fz := fun _ => true }) f xs := rfl
@[go_sem] theorem spGf_h (f : FuncId) (ps : List PV) (hl : List PO) : spGf.h f ps hl = Pm.Spec.h ({ noSpec with fz := fun _ => true }) f ps hl := rfl
@[go_sem] theorem spGf_fz (f : FuncId) : spGf.fz f = Pm.Spec.fz ({ noSpec with fz := fun _ => true }) f := rfl
@[go_sem] theorem spGf_fr (f : FuncId) : spGf.fr f = Pm.Spec.fr ({ noSpec with fz := fun _ => true }) f := rfl
@[go_sem] theorem spGf_mu (t : TypeId) : spGf.mu t = Pm.Spec.mu ({ noSpec with fz := fun _ => true }) t := rfl
@[go_sem] theorem spGf_nf (t : TypeId) : spGf.nf t = Pm.Spec.nf ({ noSpec with fz := fun _ => true }) t := rfl
theorem spGf_ok : SpecOk Try.prog spGf := ⟨noSpec_ok.1, noSpec_ok.2⟩
theorem sIndices_c (x : Sx) (sT sS : TV) (hT : ∃ cs n f, sT = .sl cs n f) : PCalls Try.prog 72 [x.t sT sS] (.fn 98 [] [.cptr (x.cs sT sS)]) := by
  refine pcalls_by Try.mixes spGf_ok (fn := Try.f72) Try.func72 rfl (by kernel_rfl) (by show 1 ≤ _; decide) ?_
  simp (decide := true) (maxSteps := 4000000) only [go_sem, Nat.reduceAdd, Nat.reduceSub, Nat.reduceMul, Nat.reduceDiv, Nat.reduceMod, Nat.reduceLT, Nat.reduceLeDiff, Nat.reduceEqDiff, Nat.reduceBEq, Nat.reduceBNe, Nat.reduceGT, Int.reduceAdd, Int.reduceSub, Int.reduceMul, Int.reduceNeg, Int.reduceLT, Int.reduceLE, Int.reduceEq, Int.reduceNe, Int.reduceBEq, Int.reduceBNe, Int.reduceToNat, Int.reduceGT, Int.reduceGE, ↓reduceIte, decide_true, decide_false, eq_self, Nat.mul_one, Nat.zero_mul, Nat.one_mul, Int.le_refl, Nat.le_refl, Int.cast_ofNat_Int, Try.f72, Sx.t, Sx.cs]
noncomputable def sxIndices : List TV → Option TV
  | [.agg [.int .i64 a0, .sl cs n f, .int .i64 a1, .int .i64 a2, .int .i64 a3, sS]] => some (.fn 98 [] [.cptr [.int .i64 a0, .sl cs n f, .int .i64 a1, .int .i64 a2, .int .i64 a3, sS]])
  | _ => none
theorem sxIndices_ok : ∀ xs r, sxIndices xs = some r → PCalls Try.prog 72 xs r := by
  intro xs r h
  unfold sxIndices at h
  split at h
  · cases h; exact sIndices_c ⟨_, [], ⟨_, _⟩, _, []⟩ _ _ ⟨_, _, _, rfl⟩
  · cases h
attribute [go_sem] sxIndices
theorem sIndicesI_c (x : Sx) (sT sS : TV) (hi : -1800 ≤ x.idx.lo ∧ x.idx.lo ≤ x.idx.hi ∧ x.idx.hi ≤ 1800) : Iter Try.prog 98 [] [.cptr (x.cs sT sS)] (idxV x) := by
  refine iter_by Try.mixes noSpec_ok (fn := Try.f98) Try.func98 rfl (by kernel_rfl) rfl (by show 2 ≤ _; decide) ?_
  intro y M stop hm1 hm2 hm3
  have hN : (idxV x).length = idxN x := by simp [idxV]
  rw [hN] at hm1 hm2
  simp (decide := true) (maxSteps := 4000000) only [go_sem, Nat.reduceAdd, Nat.reduceSub, Nat.reduceMul, Nat.reduceDiv, Nat.reduceMod, Nat.reduceLT, Nat.reduceLeDiff, Nat.reduceEqDiff, Nat.reduceBEq, Nat.reduceBNe, Nat.reduceGT, Int.reduceAdd, Int.reduceSub, Int.reduceMul, Int.reduceNeg, Int.reduceLT, Int.reduceLE, Int.reduceEq, Int.reduceNe, Int.reduceBEq, Int.reduceBNe, Int.reduceToNat, Int.reduceGT, Int.reduceGE, ↓reduceIte, decide_true, decide_false, eq_self, Nat.mul_one, Nat.zero_mul, Nat.one_mul, Int.le_refl, Nat.le_refl, Int.cast_ofNat_Int, Try.f98, Sx.cs]
  refine pwpC_loopU (A := { k : Nat // k ≤ idxN x ∧ (stop = true → k < M) }) [0, 1] (fun k => [(3, .t (.int .i64 (x.idx.lo + (k.1 : Int))))]) (fun k => [(0, .cnt k.1)]) (fun k => idxN x - k.1) ⟨0, by omega, hm3⟩ (by decide) (fun _ => by rfl) ?_ fun Q1 hQ1 ⟨k, hk, hst⟩ I1 hI1 => ?_
  · simp (decide := true) (maxSteps := 4000000) only [go_sem, Nat.reduceAdd, Nat.reduceSub, Nat.reduceMul, Nat.reduceDiv, Nat.reduceMod, Nat.reduceLT, Nat.reduceLeDiff, Nat.reduceEqDiff, Nat.reduceBEq, Nat.reduceBNe, Nat.reduceGT, Int.reduceAdd, Int.reduceSub, Int.reduceMul, Int.reduceNeg, Int.reduceLT, Int.reduceLE, Int.reduceEq, Int.reduceNe, Int.reduceBEq, Int.reduceBNe, Int.reduceToNat, Int.reduceGT, Int.reduceGE, ↓reduceIte, decide_true, decide_false, eq_self, Nat.mul_one, Nat.zero_mul, Nat.one_mul, Int.le_refl, Nat.le_refl, Int.cast_ofNat_Int, Int.add_zero]
  · by_cases hlt : x.idx.lo + (k : Int) ≤ x.idx.hi
    · have hkN : k < idxN x := by unfold idxN; omega
      have hat := idxV_at hkN
      have hcm : k < M := by
        cases stop with
        | true => exact hst rfl
        | false => rw [hm2 rfl]; exact hkN
      have w1 : IntKind.i64.wrap (x.idx.lo + (k : Int) + 1) = x.idx.lo + ((k + 1 : Nat) : Int) := by rw [wrap_in (by omega) (by omega)]; omega
      by_cases hs : (stop && k + 1 == M) = true
      · have hs' := hs
        simp only [Bool.and_eq_true, beq_iff_eq] at hs'
        simp (decide := true) (maxSteps := 4000000) only [go_sem, Nat.reduceAdd, Nat.reduceSub, Nat.reduceMul, Nat.reduceDiv, Nat.reduceMod, Nat.reduceLT, Nat.reduceLeDiff, Nat.reduceEqDiff, Nat.reduceBEq, Nat.reduceBNe, Nat.reduceGT, Int.reduceAdd, Int.reduceSub, Int.reduceMul, Int.reduceNeg, Int.reduceLT, Int.reduceLE, Int.reduceEq, Int.reduceNe, Int.reduceBEq, Int.reduceBNe, Int.reduceToNat, Int.reduceGT, Int.reduceGE, ↓reduceIte, decide_true, decide_false, eq_self, Nat.mul_one, Nat.zero_mul, Nat.one_mul, Int.le_refl, Nat.le_refl, Int.cast_ofNat_Int, hlt, hat, hcm, hs, hs'.1, hs'.2]
        try (refine hQ1 _ _ ?_; simp (decide := true) (maxSteps := 4000000) only [go_sem, Nat.reduceAdd, Nat.reduceSub, Nat.reduceMul, Nat.reduceDiv, Nat.reduceMod, Nat.reduceLT, Nat.reduceLeDiff, Nat.reduceEqDiff, Nat.reduceBEq, Nat.reduceBNe, Nat.reduceGT, Int.reduceAdd, Int.reduceSub, Int.reduceMul, Int.reduceNeg, Int.reduceLT, Int.reduceLE, Int.reduceEq, Int.reduceNe, Int.reduceBEq, Int.reduceBNe, Int.reduceToNat, Int.reduceGT, Int.reduceGE, ↓reduceIte, decide_true, decide_false, eq_self, Nat.mul_one, Nat.zero_mul, Nat.one_mul, Int.le_refl, Nat.le_refl, Int.cast_ofNat_Int])
      · have hs0 : (stop && k + 1 == M) = false := by simpa using hs
        simp (decide := true) (maxSteps := 4000000) only [go_sem, Nat.reduceAdd, Nat.reduceSub, Nat.reduceMul, Nat.reduceDiv, Nat.reduceMod, Nat.reduceLT, Nat.reduceLeDiff, Nat.reduceEqDiff, Nat.reduceBEq, Nat.reduceBNe, Nat.reduceGT, Int.reduceAdd, Int.reduceSub, Int.reduceMul, Int.reduceNeg, Int.reduceLT, Int.reduceLE, Int.reduceEq, Int.reduceNe, Int.reduceBEq, Int.reduceBNe, Int.reduceToNat, Int.reduceGT, Int.reduceGE, ↓reduceIte, decide_true, decide_false, eq_self, Nat.mul_one, Nat.zero_mul, Nat.one_mul, Int.le_refl, Nat.le_refl, Int.cast_ofNat_Int, hlt, hat, hcm, hs0]
        refine hI1 _ ⟨k + 1, by omega, fun h => ?_⟩ (by simp only; omega) ?_
        · subst h; simp at hs0; omega
        · simp (decide := true) (maxSteps := 4000000) only [go_sem, Nat.reduceAdd, Nat.reduceSub, Nat.reduceMul, Nat.reduceDiv, Nat.reduceMod, Nat.reduceLT, Nat.reduceLeDiff, Nat.reduceEqDiff, Nat.reduceBEq, Nat.reduceBNe, Nat.reduceGT, Int.reduceAdd, Int.reduceSub, Int.reduceMul, Int.reduceNeg, Int.reduceLT, Int.reduceLE, Int.reduceEq, Int.reduceNe, Int.reduceBEq, Int.reduceBNe, Int.reduceToNat, Int.reduceGT, Int.reduceGE, ↓reduceIte, decide_true, decide_false, eq_self, Nat.mul_one, Nat.zero_mul, Nat.one_mul, Int.le_refl, Nat.le_refl, Int.cast_ofNat_Int, w1]
    · have hkN : k = idxN x := by unfold idxN at *; omega
      simp (decide := true) (maxSteps := 4000000) only [go_sem, Nat.reduceAdd, Nat.reduceSub, Nat.reduceMul, Nat.reduceDiv, Nat.reduceMod, Nat.reduceLT, Nat.reduceLeDiff, Nat.reduceEqDiff, Nat.reduceBEq, Nat.reduceBNe, Nat.reduceGT, Int.reduceAdd, Int.reduceSub, Int.reduceMul, Int.reduceNeg, Int.reduceLT, Int.reduceLE, Int.reduceEq, Int.reduceNe, Int.reduceBEq, Int.reduceBNe, Int.reduceToNat, Int.reduceGT, Int.reduceGE, ↓reduceIte, decide_true, decide_false, eq_self, Nat.mul_one, Nat.zero_mul, Nat.one_mul, Int.le_refl, Nat.le_refl, Int.cast_ofNat_Int, hlt]
      refine hQ1 _ _ ?_
      have : k = M := by
        cases stop with
        | false => rw [hm2 rfl]; exact hkN
        | true => have := hst rfl; omega
      simp (decide := true) (maxSteps := 4000000) only [go_sem, Nat.reduceAdd, Nat.reduceSub, Nat.reduceMul, Nat.reduceDiv, Nat.reduceMod, Nat.reduceLT, Nat.reduceLeDiff, Nat.reduceEqDiff, Nat.reduceBEq, Nat.reduceBNe, Nat.reduceGT, Int.reduceAdd, Int.reduceSub, Int.reduceMul, Int.reduceNeg, Int.reduceLT, Int.reduceLE, Int.reduceEq, Int.reduceNe, Int.reduceBEq, Int.reduceBNe, Int.reduceToNat, Int.reduceGT, Int.reduceGE, ↓reduceIte, decide_true, decide_false, eq_self, Nat.mul_one, Nat.zero_mul, Nat.one_mul, Int.le_refl, Nat.le_refl, Int.cast_ofNat_Int, this]
end Go.Proofs.Ytjmkccckohcfkaa

/- Part Sh. -/
namespace Go.Proofs.Ytjmkccckohcfkaa
open Go.RowKit Go.Pm Go.Oc Go.Oh Go.Os
set_option maxRecDepth 100000
set_option linter.unusedVariables false
set_option maxHeartbeats 8000000

noncomputable def spGb : Pm.Spec := (((((spSa.one 17 sxCheck).one 73 sxWider).one 70 sxOn).one 71 sxOff).one 72 sxIndices)
@[go_sem] theorem spGb_p (f : FuncId) (xs : List TV) : spGb.p f xs = Pm.Spec.p ((((((spSa.one 17 sxCheck).one 73 sxWider).one 70 sxOn).one 71 sxOff).one 72 sxIndices)) f xs := rfl
@[go_sem] theorem spGb_h (f : FuncId) (ps : List PV) (hl : List PO) : spGb.h f ps hl = Pm.Spec.h ((((((spSa.one 17 sxCheck).one 73 sxWider).one 70 sxOn).one 71 sxOff).one 72 sxIndices)) f ps hl := rfl
@[go_sem] theorem spGb_fz (f : FuncId) : spGb.fz f = Pm.Spec.fz ((((((spSa.one 17 sxCheck).one 73 sxWider).one 70 sxOn).one 71 sxOff).one 72 sxIndices)) f := rfl
@[go_sem] theorem spGb_fr (f : FuncId) : spGb.fr f = Pm.Spec.fr ((((((spSa.one 17 sxCheck).one 73 sxWider).one 70 sxOn).one 71 sxOff).one 72 sxIndices)) f := rfl
@[go_sem] theorem spGb_mu (t : TypeId) : spGb.mu t = Pm.Spec.mu ((((((spSa.one 17 sxCheck).one 73 sxWider).one 70 sxOn).one 71 sxOff).one 72 sxIndices)) t := rfl
@[go_sem] theorem spGb_nf (t : TypeId) : spGb.nf t = Pm.Spec.nf ((((((spSa.one 17 sxCheck).one 73 sxWider).one 70 sxOn).one 71 sxOff).one 72 sxIndices)) t := rfl
theorem spGb_ok : SpecOk Try.prog spGb := Spec.one_ok sxIndices_ok (Spec.one_ok sxOff_ok (Spec.one_ok sxOn_ok (Spec.one_ok sxWider_ok (Spec.one_ok sxCheck_ok spSa_ok))))
/-- Are so many of the readings such? -/
def sunTo (D : Span) (l : List Sun) (k : Nat) : Bool := spannedB D 1 4000 && (inB l.length 1 6 && (l.take k).all sunB)
theorem sunTo_succ {D : Span} {l : List Sun} {k : Nat} {p : Sun} (h : l[k]? = some p) : sunTo D l (k + 1) = (sunTo D l k && (inB p.on 0 6000 && inB p.off 0 6000)) := by
  unfold sunTo; rw [take_all sunB h]; unfold sunB; simp only [Bool.and_assoc]
theorem and3 : ∀ a b c : Bool, (a && b && c) = (a && (b && c)) := by decide
theorem sIndex_c (x : Sx) {sT sS : TV} (hT : IsRow Span.cs sT x.tab) (hS : IsRow Span.cs sS x.shade) (lT : x.tab.length ≤ 9000000000000) (lS : x.shade.length ≤ 9000000000000) (D : Span) {l : List Sun} {s : TV} (hs : IsRow Sun.cs s l) (ll : l.length ≤ 9000000000000) :
    PCalls Try.prog 22 [x.t sT sS, D.t, s] (.tup [(indexP x D l).1.t, (indexP x D l).2.1.t, .int .i64 (indexP x D l).2.2]) := by
  have rT := rowS_is hT
  have rS := rowS_is hS
  unfold rowL at rT rS
  simp only [unS_nil] at rT rS
  have e0 : Sx.mk x.step x.tab ⟨x.idx.lo, x.idx.hi⟩ x.wrong x.shade = x := rfl
  refine pcalls_by Try.mixes spGb_ok (fn := Try.f22) Try.func22 rfl (by kernel_rfl) (by show 3 ≤ _; decide) ?_
  unfold indexP
  cases hv : sxOk x with
  | false =>
    have b : ((50 : Int) != 0) = true := rfl
    rcases hs with ⟨rfl, rfl⟩ | ⟨g, rfl⟩ <;> simp (decide := true) (maxSteps := 4000000) only [go_sem, Nat.reduceAdd, Nat.reduceSub, Nat.reduceMul, Nat.reduceDiv, Nat.reduceMod, Nat.reduceLT, Nat.reduceLeDiff, Nat.reduceEqDiff, Nat.reduceBEq, Nat.reduceBNe, Nat.reduceGT, Int.reduceAdd, Int.reduceSub, Int.reduceMul, Int.reduceNeg, Int.reduceLT, Int.reduceLE, Int.reduceEq, Int.reduceNe, Int.reduceBEq, Int.reduceBNe, Int.reduceToNat, Int.reduceGT, Int.reduceGE, ↓reduceIte, decide_true, decide_false, eq_self, Nat.mul_one, Nat.zero_mul, Nat.one_mul, Int.le_refl, Nat.le_refl, Int.cast_ofNat_Int, Try.f22, Sx.t, Sx.cs, rT, rS, lT, lS, e0, hv, b, Span.t, Span.cs]
  | true =>
    have h := sxOk_iff.1 hv
    have hi := h.idx
    have hw := h.wr
    obtain ⟨f, rfl⟩ := good_T h hT
    have b : ((0 : Int) != 0) = false := rfl
    have hcase : sunTo D l 0 = (spannedB D 1 4000 && inB l.length 1 6) := by simp [sunTo]
    have hend : sunTo D l l.length = sunsOk D l := by unfold sunTo sunsOk; rw [List.take_length]
    obtain ⟨D0, D1⟩ := D
    rcases hs with ⟨rfl, rfl⟩ | ⟨g, rfl⟩
    · have c1 : inB 0 1 6 = false := rfl
      have c2 : sunsOk ⟨D0, D1⟩ [] = false := by rw [← hend]; simp [sunTo, c1]
      simp (decide := true) (maxSteps := 4000000) only [go_sem, Nat.reduceAdd, Nat.reduceSub, Nat.reduceMul, Nat.reduceDiv, Nat.reduceMod, Nat.reduceLT, Nat.reduceLeDiff, Nat.reduceEqDiff, Nat.reduceBEq, Nat.reduceBNe, Nat.reduceGT, Int.reduceAdd, Int.reduceSub, Int.reduceMul, Int.reduceNeg, Int.reduceLT, Int.reduceLE, Int.reduceEq, Int.reduceNe, Int.reduceBEq, Int.reduceBNe, Int.reduceToNat, Int.reduceGT, Int.reduceGE, ↓reduceIte, decide_true, decide_false, eq_self, Nat.mul_one, Nat.zero_mul, Nat.one_mul, Int.le_refl, Nat.le_refl, Int.cast_ofNat_Int, Try.f22, Sx.t, Sx.cs, rT, rS, unS_eq, lT, lS, e0, hv, b, Span.t, Span.cs, c1]
      refine pwpC_loopU (A := Unit) [3, 4, 5, 6, 7, 36, 37] (fun _ => [(38, .t (.int .i64 0)), (10, .t (.bool false))]) (fun _ => []) (fun _ => 0) () (by decide) (fun _ => by rfl) ?_ fun Q1 hQ1 _ I1 hI1 => ?_
      · simp (decide := true) (maxSteps := 4000000) only [go_sem, Nat.reduceAdd, Nat.reduceSub, Nat.reduceMul, Nat.reduceDiv, Nat.reduceMod, Nat.reduceLT, Nat.reduceLeDiff, Nat.reduceEqDiff, Nat.reduceBEq, Nat.reduceBNe, Nat.reduceGT, Int.reduceAdd, Int.reduceSub, Int.reduceMul, Int.reduceNeg, Int.reduceLT, Int.reduceLE, Int.reduceEq, Int.reduceNe, Int.reduceBEq, Int.reduceBNe, Int.reduceToNat, Int.reduceGT, Int.reduceGE, ↓reduceIte, decide_true, decide_false, eq_self, Nat.mul_one, Nat.zero_mul, Nat.one_mul, Int.le_refl, Nat.le_refl, Int.cast_ofNat_Int]
      · simp (decide := true) (maxSteps := 4000000) only [go_sem, Nat.reduceAdd, Nat.reduceSub, Nat.reduceMul, Nat.reduceDiv, Nat.reduceMod, Nat.reduceLT, Nat.reduceLeDiff, Nat.reduceEqDiff, Nat.reduceBEq, Nat.reduceBNe, Nat.reduceGT, Int.reduceAdd, Int.reduceSub, Int.reduceMul, Int.reduceNeg, Int.reduceLT, Int.reduceLE, Int.reduceEq, Int.reduceNe, Int.reduceBEq, Int.reduceBNe, Int.reduceToNat, Int.reduceGT, Int.reduceGE, ↓reduceIte, decide_true, decide_false, eq_self, Nat.mul_one, Nat.zero_mul, Nat.one_mul, Int.le_refl, Nat.le_refl, Int.cast_ofNat_Int]
        refine hQ1 _ _ ?_
        simp (decide := true) (maxSteps := 4000000) only [go_sem, Nat.reduceAdd, Nat.reduceSub, Nat.reduceMul, Nat.reduceDiv, Nat.reduceMod, Nat.reduceLT, Nat.reduceLeDiff, Nat.reduceEqDiff, Nat.reduceBEq, Nat.reduceBNe, Nat.reduceGT, Int.reduceAdd, Int.reduceSub, Int.reduceMul, Int.reduceNeg, Int.reduceLT, Int.reduceLE, Int.reduceEq, Int.reduceNe, Int.reduceBEq, Int.reduceBNe, Int.reduceToNat, Int.reduceGT, Int.reduceGE, ↓reduceIte, decide_true, decide_false, eq_self, Nat.mul_one, Nat.zero_mul, Nat.one_mul, Int.le_refl, Nat.le_refl, Int.cast_ofNat_Int, c2, Span.t, Span.cs]
    · simp (decide := true) (maxSteps := 4000000) only [go_sem, Nat.reduceAdd, Nat.reduceSub, Nat.reduceMul, Nat.reduceDiv, Nat.reduceMod, Nat.reduceLT, Nat.reduceLeDiff, Nat.reduceEqDiff, Nat.reduceBEq, Nat.reduceBNe, Nat.reduceGT, Int.reduceAdd, Int.reduceSub, Int.reduceMul, Int.reduceNeg, Int.reduceLT, Int.reduceLE, Int.reduceEq, Int.reduceNe, Int.reduceBEq, Int.reduceBNe, Int.reduceToNat, Int.reduceGT, Int.reduceGE, ↓reduceIte, decide_true, decide_false, eq_self, Nat.mul_one, Nat.zero_mul, Nat.one_mul, Int.le_refl, Nat.le_refl, Int.cast_ofNat_Int, Try.f22, Sx.t, Sx.cs, rT, rS, unS_eq, lT, lS, e0, hv, b, Span.t, Span.cs]
      refine pwpC_loopU (A := { k : Nat // k ≤ l.length }) [3, 4, 5, 6, 7, 36, 37] (fun k => [(38, .t (.int .i64 k.1)), (10, .t (.bool (sunTo ⟨D0, D1⟩ l k.1)))]) (fun _ => []) (fun k => l.length - k.1) ⟨0, by omega⟩ (by decide) (fun _ => by rfl) ?_ fun Q1 hQ1 ⟨k, hk⟩ I1 hI1 => ?_
      · simp (decide := true) (maxSteps := 4000000) only [go_sem, Nat.reduceAdd, Nat.reduceSub, Nat.reduceMul, Nat.reduceDiv, Nat.reduceMod, Nat.reduceLT, Nat.reduceLeDiff, Nat.reduceEqDiff, Nat.reduceBEq, Nat.reduceBNe, Nat.reduceGT, Int.reduceAdd, Int.reduceSub, Int.reduceMul, Int.reduceNeg, Int.reduceLT, Int.reduceLE, Int.reduceEq, Int.reduceNe, Int.reduceBEq, Int.reduceBNe, Int.reduceToNat, Int.reduceGT, Int.reduceGE, ↓reduceIte, decide_true, decide_false, eq_self, Nat.mul_one, Nat.zero_mul, Nat.one_mul, Int.le_refl, Nat.le_refl, Int.cast_ofNat_Int, hcase]
      · by_cases hlt : (k : Int) < l.length
        · obtain ⟨p, hp⟩ := get_lt hlt
          have hd := flat_at Sun.cs (n := 2) (fun _ => rfl) hp
          have hc1 : IntKind.i64.wrap (k + 1) = ((k + 1 : Nat) : Int) := by rw [wrap_in (by omega) (by omega)]; omega
          have hnx := sunTo_succ (D := ⟨D0, D1⟩) hp
          obtain ⟨B, hB⟩ : ∃ B, sunTo ⟨D0, D1⟩ l k = B := ⟨_, rfl⟩
          rw [hB] at hnx
          simp (decide := true) (maxSteps := 4000000) only [go_sem, Nat.reduceAdd, Nat.reduceSub, Nat.reduceMul, Nat.reduceDiv, Nat.reduceMod, Nat.reduceLT, Nat.reduceLeDiff, Nat.reduceEqDiff, Nat.reduceBEq, Nat.reduceBNe, Nat.reduceGT, Int.reduceAdd, Int.reduceSub, Int.reduceMul, Int.reduceNeg, Int.reduceLT, Int.reduceLE, Int.reduceEq, Int.reduceNe, Int.reduceBEq, Int.reduceBNe, Int.reduceToNat, Int.reduceGT, Int.reduceGE, ↓reduceIte, decide_true, decide_false, eq_self, Nat.mul_one, Nat.zero_mul, Nat.one_mul, Int.le_refl, Nat.le_refl, Int.cast_ofNat_Int, hlt, hd, Sun.cs, hB]
          refine hI1 _ ⟨k + 1, by omega⟩ (by simp only; omega) ?_
          simp (decide := true) (maxSteps := 4000000) only [go_sem, Nat.reduceAdd, Nat.reduceSub, Nat.reduceMul, Nat.reduceDiv, Nat.reduceMod, Nat.reduceLT, Nat.reduceLeDiff, Nat.reduceEqDiff, Nat.reduceBEq, Nat.reduceBNe, Nat.reduceGT, Int.reduceAdd, Int.reduceSub, Int.reduceMul, Int.reduceNeg, Int.reduceLT, Int.reduceLE, Int.reduceEq, Int.reduceNe, Int.reduceBEq, Int.reduceBNe, Int.reduceToNat, Int.reduceGT, Int.reduceGE, ↓reduceIte, decide_true, decide_false, eq_self, Nat.mul_one, Nat.zero_mul, Nat.one_mul, Int.le_refl, Nat.le_refl, Int.cast_ofNat_Int, hc1, hnx, and3]
        · have hke : k = l.length := by omega
          subst hke
          simp (decide := true) (maxSteps := 4000000) only [go_sem, Nat.reduceAdd, Nat.reduceSub, Nat.reduceMul, Nat.reduceDiv, Nat.reduceMod, Nat.reduceLT, Nat.reduceLeDiff, Nat.reduceEqDiff, Nat.reduceBEq, Nat.reduceBNe, Nat.reduceGT, Int.reduceAdd, Int.reduceSub, Int.reduceMul, Int.reduceNeg, Int.reduceLT, Int.reduceLE, Int.reduceEq, Int.reduceNe, Int.reduceBEq, Int.reduceBNe, Int.reduceToNat, Int.reduceGT, Int.reduceGE, ↓reduceIte, decide_true, decide_false, eq_self, Nat.mul_one, Nat.zero_mul, Nat.one_mul, Int.le_refl, Nat.le_refl, Int.cast_ofNat_Int, hlt]
          refine hQ1 _ _ ?_
          cases hsu : sunsOk ⟨D0, D1⟩ l with
          | false => simp (decide := true) (maxSteps := 4000000) only [go_sem, Nat.reduceAdd, Nat.reduceSub, Nat.reduceMul, Nat.reduceDiv, Nat.reduceMod, Nat.reduceLT, Nat.reduceLeDiff, Nat.reduceEqDiff, Nat.reduceBEq, Nat.reduceBNe, Nat.reduceGT, Int.reduceAdd, Int.reduceSub, Int.reduceMul, Int.reduceNeg, Int.reduceLT, Int.reduceLE, Int.reduceEq, Int.reduceNe, Int.reduceBEq, Int.reduceBNe, Int.reduceToNat, Int.reduceGT, Int.reduceGE, ↓reduceIte, decide_true, decide_false, eq_self, Nat.mul_one, Nat.zero_mul, Nat.one_mul, Int.le_refl, Nat.le_refl, Int.cast_ofNat_Int, hend, hsu, Span.t, Span.cs]
          | true =>
            simp (decide := true) (maxSteps := 4000000) only [go_sem, Nat.reduceAdd, Nat.reduceSub, Nat.reduceMul, Nat.reduceDiv, Nat.reduceMod, Nat.reduceLT, Nat.reduceLeDiff, Nat.reduceEqDiff, Nat.reduceBEq, Nat.reduceBNe, Nat.reduceGT, Int.reduceAdd, Int.reduceSub, Int.reduceMul, Int.reduceNeg, Int.reduceLT, Int.reduceLE, Int.reduceEq, Int.reduceNe, Int.reduceBEq, Int.reduceBNe, Int.reduceToNat, Int.reduceGT, Int.reduceGE, ↓reduceIte, decide_true, decide_false, eq_self, Nat.mul_one, Nat.zero_mul, Nat.one_mul, Int.le_refl, Nat.le_refl, Int.cast_ofNat_Int, hend, hsu, Span.t, Span.cs]
            have hsb : ∀ p ∈ l, sunB p = true := fun p hp => by
              unfold sunsOk at hsu
              simp only [Bool.and_eq_true] at hsu
              exact List.all_eq_true.1 hsu.2.2 p hp
            have hl6 : l.length ≤ 6 := by
              unfold sunsOk at hsu
              simp only [Bool.and_eq_true, inB_iff] at hsu
              omega
            have hidx := idx_first (x := x) (l := l) (D := ⟨D0, D1⟩) (idxN x)
            obtain ⟨R, hR⟩ : ∃ R, idxTo x l ⟨D0, D1⟩ (idxN x) = R := ⟨_, rfl⟩
            rw [hR] at hidx
            rw [hR]
            refine pwpC_range rfl 98 [] [.cptr (x.cs (.sl (x.tab.flatMap Span.cs) x.tab.length f) sS)] (idxV x) [(62, .t (.fn 98 [] [.cptr (x.cs (.sl (x.tab.flatMap Span.cs) x.tab.length f) sS)])), (3, .ptr 0 0), (4, .ptr 1 0), (5, .ptr 2 0), (6, .ptr 3 0), (7, .ptr 4 0), (13, .ptr 5 0), (14, .ptr 6 0), (15, .ptr 7 0)]
              (fun i => [.box ((x.cs (.sl (x.tab.flatMap Span.cs) x.tab.length f) sS).map .t), .box [.t (.int .i64 D0), .t (.int .i64 D1)], .box [.t (.sl (l.flatMap Sun.cs) l.length g)], .box ((idxTo x l ⟨D0, D1⟩ i).index.cs.map .t), .box ((idxTo x l ⟨D0, D1⟩ i).disc.cs.map .t), .box ((x.cs (.sl (x.tab.flatMap Span.cs) x.tab.length f) sS).map .t), .box [.t (.bool (idxTo x l ⟨D0, D1⟩ i).first)], .box [.t (.fn 70 [] []), .t (.fn 71 [] [])]]) 8 ?_ (by rfl) (by rfl) ?_ (sIndicesI_c x _ _ hi) ?_ (fun i => by simp) (fun i => rfl) (fun i v hx => ?_) ?_
            · simp (decide := true) (maxSteps := 4000000) only [go_sem, Nat.reduceAdd, Nat.reduceSub, Nat.reduceMul, Nat.reduceDiv, Nat.reduceMod, Nat.reduceLT, Nat.reduceLeDiff, Nat.reduceEqDiff, Nat.reduceBEq, Nat.reduceBNe, Nat.reduceGT, Int.reduceAdd, Int.reduceSub, Int.reduceMul, Int.reduceNeg, Int.reduceLT, Int.reduceLE, Int.reduceEq, Int.reduceNe, Int.reduceBEq, Int.reduceBNe, Int.reduceToNat, Int.reduceGT, Int.reduceGE, ↓reduceIte, decide_true, decide_false, eq_self, Nat.mul_one, Nat.zero_mul, Nat.one_mul, Int.le_refl, Nat.le_refl, Int.cast_ofNat_Int, Sx.cs, Span.cs, idxTo, List.range_zero]
            · simp (decide := true) (maxSteps := 4000000) only [go_sem, Nat.reduceAdd, Nat.reduceSub, Nat.reduceMul, Nat.reduceDiv, Nat.reduceMod, Nat.reduceLT, Nat.reduceLeDiff, Nat.reduceEqDiff, Nat.reduceBEq, Nat.reduceBNe, Nat.reduceGT, Int.reduceAdd, Int.reduceSub, Int.reduceMul, Int.reduceNeg, Int.reduceLT, Int.reduceLE, Int.reduceEq, Int.reduceNe, Int.reduceBEq, Int.reduceBNe, Int.reduceToNat, Int.reduceGT, Int.reduceGE, ↓reduceIte, decide_true, decide_false, eq_self, Nat.mul_one, Nat.zero_mul, Nat.one_mul, Int.le_refl, Nat.le_refl, Int.cast_ofNat_Int, Sx.cs]
            · intro v hv
              unfold idxV at hv
              obtain ⟨y, _, rfl⟩ := List.mem_map.1 hv
              rfl
            · have hiN : i < idxN x := by
                have := (List.getElem?_eq_some_iff.1 hx).1
                simpa [idxV] using this
              rw [idxV_at hiN] at hx
              cases hx
              have hib : -1800 ≤ x.idx.lo + (i : Int) ∧ x.idx.lo + (i : Int) ≤ 1800 := by unfold idxN at hiN; omega
              obtain ⟨I, hI⟩ : ∃ I, x.idx.lo + (i : Int) = I := ⟨_, rfl⟩
              have hnx := idxTo_succ x l ⟨D0, D1⟩ i
              rw [hI] at hib hnx ⊢
              obtain ⟨A, hA⟩ : ∃ A, idxTo x l ⟨D0, D1⟩ i = A := ⟨_, rfl⟩
              rw [hA] at hnx
              obtain ⟨⟨A0, A1⟩, ⟨A2, A3⟩, A4⟩ := A
              simp (decide := true) (maxSteps := 4000000) only [go_sem, Nat.reduceAdd, Nat.reduceSub, Nat.reduceMul, Nat.reduceDiv, Nat.reduceMod, Nat.reduceLT, Nat.reduceLeDiff, Nat.reduceEqDiff, Nat.reduceBEq, Nat.reduceBNe, Nat.reduceGT, Int.reduceAdd, Int.reduceSub, Int.reduceMul, Int.reduceNeg, Int.reduceLT, Int.reduceLE, Int.reduceEq, Int.reduceNe, Int.reduceBEq, Int.reduceBNe, Int.reduceToNat, Int.reduceGT, Int.reduceGE, ↓reduceIte, decide_true, decide_false, eq_self, Nat.mul_one, Nat.zero_mul, Nat.one_mul, Int.le_refl, Nat.le_refl, Int.cast_ofNat_Int, Sx.cs, Span.cs, hA]
              refine pwpC_loopU (A := { k : Nat // k ≤ l.length }) [3, 4, 5, 6, 7, 13, 14, 15, 16, 17, 65, 66] (fun k => [(67, .t (.int .i64 k.1))]) (fun k => [(8, .box ((narS x.wrong (l.take k.1) I ⟨D0, D1⟩).cs.map .t))]) (fun k => l.length - k.1) ⟨0, by omega⟩ (by decide) (fun _ => by rfl) ?_ fun Q2 hQ2 ⟨k, hk⟩ I2 hI2 => ?_
              · simp (decide := true) (maxSteps := 4000000) only [go_sem, Nat.reduceAdd, Nat.reduceSub, Nat.reduceMul, Nat.reduceDiv, Nat.reduceMod, Nat.reduceLT, Nat.reduceLeDiff, Nat.reduceEqDiff, Nat.reduceBEq, Nat.reduceBNe, Nat.reduceGT, Int.reduceAdd, Int.reduceSub, Int.reduceMul, Int.reduceNeg, Int.reduceLT, Int.reduceLE, Int.reduceEq, Int.reduceNe, Int.reduceBEq, Int.reduceBNe, Int.reduceToNat, Int.reduceGT, Int.reduceGE, ↓reduceIte, decide_true, decide_false, eq_self, Nat.mul_one, Nat.zero_mul, Nat.one_mul, Int.le_refl, Nat.le_refl, Int.cast_ofNat_Int, Sx.cs, Span.cs, narS, List.take_zero]
              · by_cases hlt : (k : Int) < l.length
                · obtain ⟨p, hp⟩ := get_lt hlt
                  have hd := flat_at Sun.cs (n := 2) (fun _ => rfl) hp
                  have hc1 : IntKind.i64.wrap (k + 1) = ((k + 1 : Nat) : Int) := by rw [wrap_in (by omega) (by omega)]; omega
                  have hpb := hsb p (List.mem_of_getElem? hp)
                  have hnt := narS_take (w := x.wrong) (i := I) (d := ⟨D0, D1⟩) hp
                  obtain ⟨N, hN⟩ : ∃ N, narS x.wrong (l.take k) I ⟨D0, D1⟩ = N := ⟨_, rfl⟩
                  rw [hN] at hnt
                  have ep : Sun.mk p.on p.off = p := rfl
                  have eN : Span.mk N.lo N.hi = N := rfl
                  simp (decide := true) (maxSteps := 4000000) only [go_sem, Nat.reduceAdd, Nat.reduceSub, Nat.reduceMul, Nat.reduceDiv, Nat.reduceMod, Nat.reduceLT, Nat.reduceLeDiff, Nat.reduceEqDiff, Nat.reduceBEq, Nat.reduceBNe, Nat.reduceGT, Int.reduceAdd, Int.reduceSub, Int.reduceMul, Int.reduceNeg, Int.reduceLT, Int.reduceLE, Int.reduceEq, Int.reduceNe, Int.reduceBEq, Int.reduceBNe, Int.reduceToNat, Int.reduceGT, Int.reduceGE, ↓reduceIte, decide_true, decide_false, eq_self, Nat.mul_one, Nat.zero_mul, Nat.one_mul, Int.le_refl, Nat.le_refl, Int.cast_ofNat_Int, hlt, hd, Sun.cs, Sx.cs, Span.cs, hN]
                  refine pwpC_loopU (A := { j : Nat // j ≤ 2 }) [3, 4, 5, 6, 7, 13, 14, 15, 16, 17, 65, 66, 67, 19, 71] (fun j => [(72, .t (.int .i64 j.1))]) (fun j => [(8, .box ((if j.1 = 0 then N else if j.1 = 1 then onS x.wrong p I N else offS x.wrong p I (onS x.wrong p I N)).cs.map .t))]) (fun j => 2 - j.1) ⟨0, by omega⟩ (by decide) (fun _ => by rfl) ?_ fun Q3 hQ3 ⟨j, hj⟩ I3 hI3 => ?_
                  · simp (decide := true) (maxSteps := 4000000) only [go_sem, Nat.reduceAdd, Nat.reduceSub, Nat.reduceMul, Nat.reduceDiv, Nat.reduceMod, Nat.reduceLT, Nat.reduceLeDiff, Nat.reduceEqDiff, Nat.reduceBEq, Nat.reduceBNe, Nat.reduceGT, Int.reduceAdd, Int.reduceSub, Int.reduceMul, Int.reduceNeg, Int.reduceLT, Int.reduceLE, Int.reduceEq, Int.reduceNe, Int.reduceBEq, Int.reduceBNe, Int.reduceToNat, Int.reduceGT, Int.reduceGE, ↓reduceIte, decide_true, decide_false, eq_self, Nat.mul_one, Nat.zero_mul, Nat.one_mul, Int.le_refl, Nat.le_refl, Int.cast_ofNat_Int, Sx.cs, Span.cs, Sun.cs]
                  · rcases (show j = 0 ∨ j = 1 ∨ j = 2 by omega) with rfl | rfl | rfl
                    · have c1 : (0 : Int) < 2 := by decide
                      have w : IntKind.i64.wrap 1 = 1 := rfl
                      simp (decide := true) (maxSteps := 4000000) only [go_sem, Nat.reduceAdd, Nat.reduceSub, Nat.reduceMul, Nat.reduceDiv, Nat.reduceMod, Nat.reduceLT, Nat.reduceLeDiff, Nat.reduceEqDiff, Nat.reduceBEq, Nat.reduceBNe, Nat.reduceGT, Int.reduceAdd, Int.reduceSub, Int.reduceMul, Int.reduceNeg, Int.reduceLT, Int.reduceLE, Int.reduceEq, Int.reduceNe, Int.reduceBEq, Int.reduceBNe, Int.reduceToNat, Int.reduceGT, Int.reduceGE, ↓reduceIte, decide_true, decide_false, eq_self, Nat.mul_one, Nat.zero_mul, Nat.one_mul, Int.le_refl, Nat.le_refl, Int.cast_ofNat_Int, Sx.cs, Span.cs, Sun.cs, ep, eN, hpb, hw, hib, c1, Span.t]
                      refine hI3 _ ⟨1, by omega⟩ (by simp only; omega) ?_
                      simp (decide := true) (maxSteps := 4000000) only [go_sem, Nat.reduceAdd, Nat.reduceSub, Nat.reduceMul, Nat.reduceDiv, Nat.reduceMod, Nat.reduceLT, Nat.reduceLeDiff, Nat.reduceEqDiff, Nat.reduceBEq, Nat.reduceBNe, Nat.reduceGT, Int.reduceAdd, Int.reduceSub, Int.reduceMul, Int.reduceNeg, Int.reduceLT, Int.reduceLE, Int.reduceEq, Int.reduceNe, Int.reduceBEq, Int.reduceBNe, Int.reduceToNat, Int.reduceGT, Int.reduceGE, ↓reduceIte, decide_true, decide_false, eq_self, Nat.mul_one, Nat.zero_mul, Nat.one_mul, Int.le_refl, Nat.le_refl, Int.cast_ofNat_Int, w, Sx.cs, Span.cs, Sun.cs]
                    · have c1 : (1 : Int) < 2 := by decide
                      have w : IntKind.i64.wrap 2 = 2 := rfl
                      have eO : Span.mk (onS x.wrong p I N).lo (onS x.wrong p I N).hi = onS x.wrong p I N := rfl
                      simp (decide := true) (maxSteps := 4000000) only [go_sem, Nat.reduceAdd, Nat.reduceSub, Nat.reduceMul, Nat.reduceDiv, Nat.reduceMod, Nat.reduceLT, Nat.reduceLeDiff, Nat.reduceEqDiff, Nat.reduceBEq, Nat.reduceBNe, Nat.reduceGT, Int.reduceAdd, Int.reduceSub, Int.reduceMul, Int.reduceNeg, Int.reduceLT, Int.reduceLE, Int.reduceEq, Int.reduceNe, Int.reduceBEq, Int.reduceBNe, Int.reduceToNat, Int.reduceGT, Int.reduceGE, ↓reduceIte, decide_true, decide_false, eq_self, Nat.mul_one, Nat.zero_mul, Nat.one_mul, Int.le_refl, Nat.le_refl, Int.cast_ofNat_Int, Sx.cs, Span.cs, Sun.cs, ep, eO, hpb, hw, hib, c1, Span.t]
                      refine hI3 _ ⟨2, by omega⟩ (by simp only; omega) ?_
                      simp (decide := true) (maxSteps := 4000000) only [go_sem, Nat.reduceAdd, Nat.reduceSub, Nat.reduceMul, Nat.reduceDiv, Nat.reduceMod, Nat.reduceLT, Nat.reduceLeDiff, Nat.reduceEqDiff, Nat.reduceBEq, Nat.reduceBNe, Nat.reduceGT, Int.reduceAdd, Int.reduceSub, Int.reduceMul, Int.reduceNeg, Int.reduceLT, Int.reduceLE, Int.reduceEq, Int.reduceNe, Int.reduceBEq, Int.reduceBNe, Int.reduceToNat, Int.reduceGT, Int.reduceGE, ↓reduceIte, decide_true, decide_false, eq_self, Nat.mul_one, Nat.zero_mul, Nat.one_mul, Int.le_refl, Nat.le_refl, Int.cast_ofNat_Int, w, Sx.cs, Span.cs, Sun.cs]
                    · simp (decide := true) (maxSteps := 4000000) only [go_sem, Nat.reduceAdd, Nat.reduceSub, Nat.reduceMul, Nat.reduceDiv, Nat.reduceMod, Nat.reduceLT, Nat.reduceLeDiff, Nat.reduceEqDiff, Nat.reduceBEq, Nat.reduceBNe, Nat.reduceGT, Int.reduceAdd, Int.reduceSub, Int.reduceMul, Int.reduceNeg, Int.reduceLT, Int.reduceLE, Int.reduceEq, Int.reduceNe, Int.reduceBEq, Int.reduceBNe, Int.reduceToNat, Int.reduceGT, Int.reduceGE, ↓reduceIte, decide_true, decide_false, eq_self, Nat.mul_one, Nat.zero_mul, Nat.one_mul, Int.le_refl, Nat.le_refl, Int.cast_ofNat_Int, Sx.cs, Span.cs, Sun.cs]
                      refine hQ3 _ _ ?_
                      simp (decide := true) (maxSteps := 4000000) only [go_sem, Nat.reduceAdd, Nat.reduceSub, Nat.reduceMul, Nat.reduceDiv, Nat.reduceMod, Nat.reduceLT, Nat.reduceLeDiff, Nat.reduceEqDiff, Nat.reduceBEq, Nat.reduceBNe, Nat.reduceGT, Int.reduceAdd, Int.reduceSub, Int.reduceMul, Int.reduceNeg, Int.reduceLT, Int.reduceLE, Int.reduceEq, Int.reduceNe, Int.reduceBEq, Int.reduceBNe, Int.reduceToNat, Int.reduceGT, Int.reduceGE, ↓reduceIte, decide_true, decide_false, eq_self, Nat.mul_one, Nat.zero_mul, Nat.one_mul, Int.le_refl, Nat.le_refl, Int.cast_ofNat_Int, Sx.cs, Span.cs, Sun.cs]
                      refine hI2 _ ⟨k + 1, by omega⟩ (by simp only; omega) ?_
                      simp (decide := true) (maxSteps := 4000000) only [go_sem, Nat.reduceAdd, Nat.reduceSub, Nat.reduceMul, Nat.reduceDiv, Nat.reduceMod, Nat.reduceLT, Nat.reduceLeDiff, Nat.reduceEqDiff, Nat.reduceBEq, Nat.reduceBNe, Nat.reduceGT, Int.reduceAdd, Int.reduceSub, Int.reduceMul, Int.reduceNeg, Int.reduceLT, Int.reduceLE, Int.reduceEq, Int.reduceNe, Int.reduceBEq, Int.reduceBNe, Int.reduceToNat, Int.reduceGT, Int.reduceGE, ↓reduceIte, decide_true, decide_false, eq_self, Nat.mul_one, Nat.zero_mul, Nat.one_mul, Int.le_refl, Nat.le_refl, Int.cast_ofNat_Int, hc1, hnt, Sx.cs, Span.cs, Sun.cs]
                · have hke : k = l.length := by omega
                  subst hke
                  simp (decide := true) (maxSteps := 4000000) only [go_sem, Nat.reduceAdd, Nat.reduceSub, Nat.reduceMul, Nat.reduceDiv, Nat.reduceMod, Nat.reduceLT, Nat.reduceLeDiff, Nat.reduceEqDiff, Nat.reduceBEq, Nat.reduceBNe, Nat.reduceGT, Int.reduceAdd, Int.reduceSub, Int.reduceMul, Int.reduceNeg, Int.reduceLT, Int.reduceLE, Int.reduceEq, Int.reduceNe, Int.reduceBEq, Int.reduceBNe, Int.reduceToNat, Int.reduceGT, Int.reduceGE, ↓reduceIte, decide_true, decide_false, eq_self, Nat.mul_one, Nat.zero_mul, Nat.one_mul, Int.le_refl, Nat.le_refl, Int.cast_ofNat_Int, hlt]
                  refine hQ2 _ _ ?_
                  rw [List.take_length]
                  obtain ⟨N, hN⟩ : ∃ N, narS x.wrong l I ⟨D0, D1⟩ = N := ⟨_, rfl⟩
                  unfold idxStep at hnx
                  rw [hN] at hnx ⊢
                  by_cases hle : N.lo ≤ N.hi
                  · rw [if_pos hle] at hnx
                    simp (decide := true) (maxSteps := 4000000) only [go_sem, Nat.reduceAdd, Nat.reduceSub, Nat.reduceMul, Nat.reduceDiv, Nat.reduceMod, Nat.reduceLT, Nat.reduceLeDiff, Nat.reduceEqDiff, Nat.reduceBEq, Nat.reduceBNe, Nat.reduceGT, Int.reduceAdd, Int.reduceSub, Int.reduceMul, Int.reduceNeg, Int.reduceLT, Int.reduceLE, Int.reduceEq, Int.reduceNe, Int.reduceBEq, Int.reduceBNe, Int.reduceToNat, Int.reduceGT, Int.reduceGE, ↓reduceIte, decide_true, decide_false, eq_self, Nat.mul_one, Nat.zero_mul, Nat.one_mul, Int.le_refl, Nat.le_refl, Int.cast_ofNat_Int, hle, Sx.cs, Span.cs, Span.t]
                    simp (decide := true) (maxSteps := 4000000) only [go_sem, Nat.reduceAdd, Nat.reduceSub, Nat.reduceMul, Nat.reduceDiv, Nat.reduceMod, Nat.reduceLT, Nat.reduceLeDiff, Nat.reduceEqDiff, Nat.reduceBEq, Nat.reduceBNe, Nat.reduceGT, Int.reduceAdd, Int.reduceSub, Int.reduceMul, Int.reduceNeg, Int.reduceLT, Int.reduceLE, Int.reduceEq, Int.reduceNe, Int.reduceBEq, Int.reduceBNe, Int.reduceToNat, Int.reduceGT, Int.reduceGE, ↓reduceIte, decide_true, decide_false, eq_self, Nat.mul_one, Nat.zero_mul, Nat.one_mul, Int.le_refl, Nat.le_refl, Int.cast_ofNat_Int, hnx, Span.cs, Span.t]
                  · rw [if_neg hle] at hnx
                    simp (decide := true) (maxSteps := 4000000) only [go_sem, Nat.reduceAdd, Nat.reduceSub, Nat.reduceMul, Nat.reduceDiv, Nat.reduceMod, Nat.reduceLT, Nat.reduceLeDiff, Nat.reduceEqDiff, Nat.reduceBEq, Nat.reduceBNe, Nat.reduceGT, Int.reduceAdd, Int.reduceSub, Int.reduceMul, Int.reduceNeg, Int.reduceLT, Int.reduceLE, Int.reduceEq, Int.reduceNe, Int.reduceBEq, Int.reduceBNe, Int.reduceToNat, Int.reduceGT, Int.reduceGE, ↓reduceIte, decide_true, decide_false, eq_self, Nat.mul_one, Nat.zero_mul, Nat.one_mul, Int.le_refl, Nat.le_refl, Int.cast_ofNat_Int, hle, Sx.cs, Span.cs, Span.t, hnx]
            · have hN : (idxV x).length = idxN x := by simp [idxV]
              rw [hN, hR]
              cases hf : R.first with
              | true =>
                obtain ⟨e1, e2⟩ := hidx hf
                simp (decide := true) (maxSteps := 4000000) only [go_sem, Nat.reduceAdd, Nat.reduceSub, Nat.reduceMul, Nat.reduceDiv, Nat.reduceMod, Nat.reduceLT, Nat.reduceLeDiff, Nat.reduceEqDiff, Nat.reduceBEq, Nat.reduceBNe, Nat.reduceGT, Int.reduceAdd, Int.reduceSub, Int.reduceMul, Int.reduceNeg, Int.reduceLT, Int.reduceLE, Int.reduceEq, Int.reduceNe, Int.reduceBEq, Int.reduceBNe, Int.reduceToNat, Int.reduceGT, Int.reduceGE, ↓reduceIte, decide_true, decide_false, eq_self, Nat.mul_one, Nat.zero_mul, Nat.one_mul, Int.le_refl, Nat.le_refl, Int.cast_ofNat_Int, hf, e1, e2, Sx.cs, Span.cs, Span.t]
              | false => simp (decide := true) (maxSteps := 4000000) only [go_sem, Nat.reduceAdd, Nat.reduceSub, Nat.reduceMul, Nat.reduceDiv, Nat.reduceMod, Nat.reduceLT, Nat.reduceLeDiff, Nat.reduceEqDiff, Nat.reduceBEq, Nat.reduceBNe, Nat.reduceGT, Int.reduceAdd, Int.reduceSub, Int.reduceMul, Int.reduceNeg, Int.reduceLT, Int.reduceLE, Int.reduceEq, Int.reduceNe, Int.reduceBEq, Int.reduceBNe, Int.reduceToNat, Int.reduceGT, Int.reduceGE, ↓reduceIte, decide_true, decide_false, eq_self, Nat.mul_one, Nat.zero_mul, Nat.one_mul, Int.le_refl, Nat.le_refl, Int.cast_ofNat_Int, hf, Sx.cs, Span.cs, Span.t]
end Go.Proofs.Ytjmkccckohcfkaa

/- Part Si. -/
namespace Go.Os
open Go Go.Pm Go.Oc Go.Oh
structure Tr where
  a : Int
  s : Int
  t : Int
def Tr.cs (x : Tr) : List TV := [.int .i64 x.a, .int .i64 x.s, .int .i64 x.t]
theorem Tr.cs_inj (x y : Tr) (h : x.cs = y.cs) : x = y := by
  obtain ⟨a, b, c⟩ := x; obtain ⟨d, e, f⟩ := y
  simp only [Tr.cs, List.cons.injEq, TV.int.injEq, true_and, and_true] at h
  rw [h.1, h.2.1, h.2.2]
noncomputable def unTr (cs : List TV) : Option (List Tr) := unflat Tr.cs cs
theorem unTr_eq (l : List Tr) : unTr (l.flatMap Tr.cs) = some l := unflat_eq (n := 3) (fun _ => rfl) (by decide) Tr.cs_inj l
theorem unTr_nil : unTr [] = some [] := unTr_eq []
theorem unTr_some {cs : List TV} {l : List Tr} (h : unTr cs = some l) : cs = l.flatMap Tr.cs := unflat_some h
theorem rowTr_is {s : TV} {l : List Tr} (h : IsRow Tr.cs s l) : rowL unTr s = some l := by
  rcases h with ⟨rfl, rfl⟩ | ⟨f, rfl⟩
  · exact unTr_nil
  · simp [rowL, unTr_eq]
attribute [go_sem] unTr_eq unTr_nil
/-- Is it a trial of a sextant? -/
def trB (x : Sx) (p : Tr) : Bool := isRd x p.a p.s && (decide (p.a % x.step = 0) && inB p.t (-10000) 510000)
def trsOk (x : Sx) (l : List Tr) : Bool := inB l.length 1 8 && l.all (trB x)
/-- At which angle of the table. -/
def trK (x : Sx) (p : Tr) : Nat := (p.a / x.step).toNat
/-- Between what the correction and the index error, together, lie by a trial. -/
def trS (x : Sx) (p : Tr) : Span := ⟨p.t - p.a - (shs x p.s.toNat).hi, p.t - p.a - (shs x p.s.toNat).lo⟩
def sumsN (x : Sx) (l : List Tr) (k : Nat) : List Span := (l.filter fun p => trK x p == k).map (trS x)
def atN (x : Sx) (l : List Tr) (k : Nat) : Bool := l.any fun p => trK x p == k
theorem sumsN_take {x : Sx} {l : List Tr} {j : Nat} {p : Tr} (h : l[j]? = some p) (k : Nat) : sumsN x (l.take (j + 1)) k = if trK x p = k then sumsN x (l.take j) k ++ [trS x p] else sumsN x (l.take j) k := by
  unfold sumsN
  rw [take_snoc h, List.filter_append, List.map_append]
  by_cases e : trK x p = k
  · rw [if_pos e]; simp [e]
  · rw [if_neg e]; simp [e]
theorem atN_take {x : Sx} {l : List Tr} {j : Nat} {p : Tr} (h : l[j]? = some p) (k : Nat) : atN x (l.take (j + 1)) k = if trK x p = k then true else atN x (l.take j) k := by
  unfold atN
  rw [take_snoc h, List.any_append]
  by_cases e : trK x p = k
  · rw [if_pos e]; simp [e]
  · rw [if_neg e]; simp [e]
theorem sumsN_len (x : Sx) (l : List Tr) (k : Nat) : (sumsN x l k).length ≤ l.length := by
  unfold sumsN; rw [List.length_map]; exact List.length_filter_le _ _
/-- What heard returns. -/
def heardC (x : Sx) (l : List Tr) : List TV := [.bool (atN x l 0), .bool (atN x l 1), .bool (atN x l 2), .bool (atN x l 3), .bool (atN x l 4), .bool (atN x l 5), .bool (atN x l 6), .bool (atN x l 7), .bool (atN x l 8), .bool (atN x l 9), .bool (atN x l 10), .bool (atN x l 11),
  .imap 119 [rowSp (sumsN x l 0), rowSp (sumsN x l 1), rowSp (sumsN x l 2), rowSp (sumsN x l 3), rowSp (sumsN x l 4), rowSp (sumsN x l 5), rowSp (sumsN x l 6), rowSp (sumsN x l 7), rowSp (sumsN x l 8), rowSp (sumsN x l 9), rowSp (sumsN x l 10), rowSp (sumsN x l 11)]]
def heardT (x : Sx) (l : List Tr) : TV := .agg (heardC x l)
theorem trK_lt {x : Sx} (h : GoodS x) {p : Tr} (hp : trB x p = true) : trK x p < 12 ∧ trK x p < x.tab.length := by
  unfold trB at hp
  simp only [Bool.and_eq_true] at hp
  obtain ⟨h1, _⟩ := isRd_iff.1 hp.1
  have := (rd_tab h h1.1 h1.2).kn
  have := h.len
  unfold trK; omega
theorem lt12 {k : Nat} (h : k < 12) : k = 0 ∨ k = 1 ∨ k = 2 ∨ k = 3 ∨ k = 4 ∨ k = 5 ∨ k = 6 ∨ k = 7 ∨ k = 8 ∨ k = 9 ∨ k = 10 ∨ k = 11 := by omega
end Go.Os
namespace Go.Proofs.Ytjmkccckohcfkaa
open Go.RowKit Go.Pm Go.Oc Go.Oh Go.Os
set_option maxRecDepth 100000
set_option linter.unusedVariables false
set_option maxHeartbeats 8000000

theorem wl0 : IntKind.i64.wrap 0 = 0 := rfl
theorem wl1 : IntKind.i64.wrap 1 = 1 := rfl
theorem wl2 : IntKind.i64.wrap 2 = 2 := rfl
theorem wl3 : IntKind.i64.wrap 3 = 3 := rfl
theorem wl4 : IntKind.i64.wrap 4 = 4 := rfl
theorem wl5 : IntKind.i64.wrap 5 = 5 := rfl
theorem wl6 : IntKind.i64.wrap 6 = 6 := rfl
theorem wl7 : IntKind.i64.wrap 7 = 7 := rfl
theorem wl8 : IntKind.i64.wrap 8 = 8 := rfl
theorem wl9 : IntKind.i64.wrap 9 = 9 := rfl
theorem wl10 : IntKind.i64.wrap 10 = 10 := rfl
theorem wl11 : IntKind.i64.wrap 11 = 11 := rfl
theorem wl12 : IntKind.i64.wrap 12 = 12 := rfl
noncomputable def spHa : Pm.Spec := Spec.oneH 66 sxReading { (noSpec.one 65 sxAdded) with mu := fun t => t == 119, fr := fun f => f == 65 }
@[go_sem] theorem spHa_p (f : FuncId) (xs : List TV) : spHa.p f xs = Pm.Spec.p (Spec.oneH 66 sxReading { (noSpec.one 65 sxAdded) with mu := fun t => t == 119, fr := fun f => f == 65 }) f xs := rfl
@[go_sem] theorem spHa_h (f : FuncId) (ps : List PV) (hl : List PO) : spHa.h f ps hl = Pm.Spec.h (Spec.oneH 66 sxReading { (noSpec.one 65 sxAdded) with mu := fun t => t == 119, fr := fun f => f == 65 }) f ps hl := rfl
@[go_sem] theorem spHa_fz (f : FuncId) : spHa.fz f = Pm.Spec.fz (Spec.oneH 66 sxReading { (noSpec.one 65 sxAdded) with mu := fun t => t == 119, fr := fun f => f == 65 }) f := rfl
@[go_sem] theorem spHa_fr (f : FuncId) : spHa.fr f = Pm.Spec.fr (Spec.oneH 66 sxReading { (noSpec.one 65 sxAdded) with mu := fun t => t == 119, fr := fun f => f == 65 }) f := rfl
@[go_sem] theorem spHa_mu (t : TypeId) : spHa.mu t = Pm.Spec.mu (Spec.oneH 66 sxReading { (noSpec.one 65 sxAdded) with mu := fun t => t == 119, fr := fun f => f == 65 }) t := rfl
@[go_sem] theorem spHa_nf (t : TypeId) : spHa.nf t = Pm.Spec.nf (Spec.oneH 66 sxReading { (noSpec.one 65 sxAdded) with mu := fun t => t == 119, fr := fun f => f == 65 }) t := rfl
theorem spHa_ok : SpecOk Try.prog spHa := Spec.oneH_ok sxReading_ok ⟨(Spec.one_ok sxAdded_ok noSpec_ok).1, (Spec.one_ok sxAdded_ok noSpec_ok).2⟩
theorem sHeard_c (x : Sx) {sT sS : TV} (hT : IsRow Span.cs sT x.tab) (hS : IsRow Span.cs sS x.shade) (hv : sxOk x = true) {l : List Tr} {s : TV} (hs : IsRow Tr.cs s l) (hl : l.all (trB x) = true) (h8 : l.length ≤ 8) :
    PCalls Try.prog 77 [x.t sT sS, s] (heardT x l) := by
  have h := sxOk_iff.1 hv
  have rS := rowS_is hS
  unfold rowL at rS
  simp only [unS_nil] at rS
  have e0 : Sx.mk x.step x.tab ⟨x.idx.lo, x.idx.hi⟩ x.wrong x.shade = x := rfl
  obtain ⟨f, rfl⟩ := good_T h hT
  refine pcalls_by Try.mixes spHa_ok (fn := Try.f77) Try.func77 rfl (by kernel_rfl) (by show 2 ≤ _; decide) ?_
  rcases hs with ⟨rfl, rfl⟩ | ⟨g, rfl⟩
  · simp (decide := true) (maxSteps := 4000000) only [go_sem, Nat.reduceAdd, Nat.reduceSub, Nat.reduceMul, Nat.reduceDiv, Nat.reduceMod, Nat.reduceLT, Nat.reduceLeDiff, Nat.reduceEqDiff, Nat.reduceBEq, Nat.reduceBNe, Nat.reduceGT, Int.reduceAdd, Int.reduceSub, Int.reduceMul, Int.reduceNeg, Int.reduceLT, Int.reduceLE, Int.reduceEq, Int.reduceNe, Int.reduceBEq, Int.reduceBNe, Int.reduceToNat, Int.reduceGT, Int.reduceGE, ↓reduceIte, decide_true, decide_false, eq_self, Nat.mul_one, Nat.zero_mul, Nat.one_mul, Int.le_refl, Nat.le_refl, Int.cast_ofNat_Int, Try.f77, Sx.t, Sx.cs]
    refine pwpC_loopU (A := Unit) [2, 4, 5, 12, 13] (fun _ => [(14, .t (.int .i64 0))]) (fun _ => []) (fun _ => 0) () (by decide) (fun _ => by rfl) ?_ fun Q1 hQ1 _ I1 hI1 => ?_
    · simp (decide := true) (maxSteps := 4000000) only [go_sem, Nat.reduceAdd, Nat.reduceSub, Nat.reduceMul, Nat.reduceDiv, Nat.reduceMod, Nat.reduceLT, Nat.reduceLeDiff, Nat.reduceEqDiff, Nat.reduceBEq, Nat.reduceBNe, Nat.reduceGT, Int.reduceAdd, Int.reduceSub, Int.reduceMul, Int.reduceNeg, Int.reduceLT, Int.reduceLE, Int.reduceEq, Int.reduceNe, Int.reduceBEq, Int.reduceBNe, Int.reduceToNat, Int.reduceGT, Int.reduceGE, ↓reduceIte, decide_true, decide_false, eq_self, Nat.mul_one, Nat.zero_mul, Nat.one_mul, Int.le_refl, Nat.le_refl, Int.cast_ofNat_Int]
    · simp (decide := true) (maxSteps := 4000000) only [go_sem, Nat.reduceAdd, Nat.reduceSub, Nat.reduceMul, Nat.reduceDiv, Nat.reduceMod, Nat.reduceLT, Nat.reduceLeDiff, Nat.reduceEqDiff, Nat.reduceBEq, Nat.reduceBNe, Nat.reduceGT, Int.reduceAdd, Int.reduceSub, Int.reduceMul, Int.reduceNeg, Int.reduceLT, Int.reduceLE, Int.reduceEq, Int.reduceNe, Int.reduceBEq, Int.reduceBNe, Int.reduceToNat, Int.reduceGT, Int.reduceGE, ↓reduceIte, decide_true, decide_false, eq_self, Nat.mul_one, Nat.zero_mul, Nat.one_mul, Int.le_refl, Nat.le_refl, Int.cast_ofNat_Int]
      refine hQ1 _ _ ?_
      simp (decide := true) (maxSteps := 4000000) only [go_sem, Nat.reduceAdd, Nat.reduceSub, Nat.reduceMul, Nat.reduceDiv, Nat.reduceMod, Nat.reduceLT, Nat.reduceLeDiff, Nat.reduceEqDiff, Nat.reduceBEq, Nat.reduceBNe, Nat.reduceGT, Int.reduceAdd, Int.reduceSub, Int.reduceMul, Int.reduceNeg, Int.reduceLT, Int.reduceLE, Int.reduceEq, Int.reduceNe, Int.reduceBEq, Int.reduceBNe, Int.reduceToNat, Int.reduceGT, Int.reduceGE, ↓reduceIte, decide_true, decide_false, eq_self, Nat.mul_one, Nat.zero_mul, Nat.one_mul, Int.le_refl, Nat.le_refl, Int.cast_ofNat_Int, heardT, heardC, atN, sumsN, rowSp, List.any_nil, List.filter_nil, List.map_nil, freezeW, freezeO, thawA, wr, upo]
  · simp (decide := true) (maxSteps := 4000000) only [go_sem, Nat.reduceAdd, Nat.reduceSub, Nat.reduceMul, Nat.reduceDiv, Nat.reduceMod, Nat.reduceLT, Nat.reduceLeDiff, Nat.reduceEqDiff, Nat.reduceBEq, Nat.reduceBNe, Nat.reduceGT, Int.reduceAdd, Int.reduceSub, Int.reduceMul, Int.reduceNeg, Int.reduceLT, Int.reduceLE, Int.reduceEq, Int.reduceNe, Int.reduceBEq, Int.reduceBNe, Int.reduceToNat, Int.reduceGT, Int.reduceGE, ↓reduceIte, decide_true, decide_false, eq_self, Nat.mul_one, Nat.zero_mul, Nat.one_mul, Int.le_refl, Nat.le_refl, Int.cast_ofNat_Int, Try.f77, Sx.t, Sx.cs]
    refine pwpC_loopU (A := { j : Nat // j ≤ l.length }) [2, 4, 5, 12, 13] (fun j => [(14, .t (.int .i64 j.1))]) (fun j => [(2, .mpo 119 [.own ((sumsN x (l.take j.1) 0).flatMap Span.cs) (sumsN x (l.take j.1) 0).length 4, .own ((sumsN x (l.take j.1) 1).flatMap Span.cs) (sumsN x (l.take j.1) 1).length 5,
        .own ((sumsN x (l.take j.1) 2).flatMap Span.cs) (sumsN x (l.take j.1) 2).length 6, .own ((sumsN x (l.take j.1) 3).flatMap Span.cs) (sumsN x (l.take j.1) 3).length 7, .own ((sumsN x (l.take j.1) 4).flatMap Span.cs) (sumsN x (l.take j.1) 4).length 8,
        .own ((sumsN x (l.take j.1) 5).flatMap Span.cs) (sumsN x (l.take j.1) 5).length 9, .own ((sumsN x (l.take j.1) 6).flatMap Span.cs) (sumsN x (l.take j.1) 6).length 10, .own ((sumsN x (l.take j.1) 7).flatMap Span.cs) (sumsN x (l.take j.1) 7).length 11,
        .own ((sumsN x (l.take j.1) 8).flatMap Span.cs) (sumsN x (l.take j.1) 8).length 12, .own ((sumsN x (l.take j.1) 9).flatMap Span.cs) (sumsN x (l.take j.1) 9).length 13, .own ((sumsN x (l.take j.1) 10).flatMap Span.cs) (sumsN x (l.take j.1) 10).length 14,
        .own ((sumsN x (l.take j.1) 11).flatMap Span.cs) (sumsN x (l.take j.1) 11).length 15]),
      (3, .box [.t (.bool (atN x (l.take j.1) 0)), .t (.bool (atN x (l.take j.1) 1)), .t (.bool (atN x (l.take j.1) 2)), .t (.bool (atN x (l.take j.1) 3)), .t (.bool (atN x (l.take j.1) 4)), .t (.bool (atN x (l.take j.1) 5)), .t (.bool (atN x (l.take j.1) 6)),
        .t (.bool (atN x (l.take j.1) 7)), .t (.bool (atN x (l.take j.1) 8)), .t (.bool (atN x (l.take j.1) 9)), .t (.bool (atN x (l.take j.1) 10)), .t (.bool (atN x (l.take j.1) 11)), .mapr 2]),
      (4, .tok (sumsN x (l.take j.1) 0).length 24), (5, .tok (sumsN x (l.take j.1) 1).length 24), (6, .tok (sumsN x (l.take j.1) 2).length 24), (7, .tok (sumsN x (l.take j.1) 3).length 24),
      (8, .tok (sumsN x (l.take j.1) 4).length 24), (9, .tok (sumsN x (l.take j.1) 5).length 24), (10, .tok (sumsN x (l.take j.1) 6).length 24), (11, .tok (sumsN x (l.take j.1) 7).length 24),
      (12, .tok (sumsN x (l.take j.1) 8).length 24), (13, .tok (sumsN x (l.take j.1) 9).length 24), (14, .tok (sumsN x (l.take j.1) 10).length 24), (15, .tok (sumsN x (l.take j.1) 11).length 24)])
      (fun j => l.length - j.1) ⟨0, by omega⟩ (by decide) (fun _ => by rfl) ?_ fun Q1 hQ1 ⟨j, hj⟩ I1 hI1 => ?_
    · have z1 : ∀ k, sumsN x [] k = [] := fun k => by simp [sumsN]
      have z2 : ∀ k, atN x [] k = false := fun k => by simp [atN]
      simp (decide := true) (maxSteps := 4000000) only [go_sem, Nat.reduceAdd, Nat.reduceSub, Nat.reduceMul, Nat.reduceDiv, Nat.reduceMod, Nat.reduceLT, Nat.reduceLeDiff, Nat.reduceEqDiff, Nat.reduceBEq, Nat.reduceBNe, Nat.reduceGT, Int.reduceAdd, Int.reduceSub, Int.reduceMul, Int.reduceNeg, Int.reduceLT, Int.reduceLE, Int.reduceEq, Int.reduceNe, Int.reduceBEq, Int.reduceBNe, Int.reduceToNat, Int.reduceGT, Int.reduceGE, ↓reduceIte, decide_true, decide_false, eq_self, Nat.mul_one, Nat.zero_mul, Nat.one_mul, Int.le_refl, Nat.le_refl, Int.cast_ofNat_Int, z1, z2]
    · by_cases hlt : (j : Int) < l.length
      · obtain ⟨p, hp⟩ := get_lt hlt
        have hd := flat_at Tr.cs (n := 3) (fun _ => rfl) hp
        have hc1 : IntKind.i64.wrap (j + 1) = ((j + 1 : Nat) : Int) := by rw [wrap_in (by omega) (by omega)]; omega
        have hpb := List.all_eq_true.1 hl p (List.mem_of_getElem? hp)
        have hk12 := (trK_lt h hpb).1
        have hpb' := hpb
        unfold trB at hpb'
        simp only [Bool.and_eq_true, inB_iff, decide_eq_true_eq] at hpb'
        obtain ⟨hr, hdiv, ht⟩ := hpb'
        obtain ⟨hr1, hr2⟩ := isRd_iff.1 hr
        have hp6 := pow_len h.sh
        have hlb := last_b h
        have hst := h.st
        have hs64 : 0 ≤ p.s ∧ p.s < 64 := by omega
        have hne : ¬ x.step = 0 := by omega
        have q1 : p.a.tdiv x.step = p.a / x.step := Int.tdiv_eq_ediv_of_nonneg hr1.1
        have q0 : 0 ≤ p.a / x.step := Int.ediv_nonneg hr1.1 (by omega)
        have qk : p.a / x.step = (trK x p : Int) := by unfold trK; rw [Int.toNat_of_nonneg q0]
        have w0 : IntKind.i64.wrap (trK x p : Int) = (trK x p : Int) := wrap_in (by omega) (by omega)
        have hln := shA_len x p.s.toNat x.shade.length
        have hLok := shA_ok h p.s.toNat p.a x.shade.length (Nat.le_refl _)
        have hLs := shA_sum x p.s.toNat p.a x.shade.length
        have hsb := shs_b h p.s.toNat
        obtain ⟨L, hL⟩ : ∃ L, shA x p.s.toNat x.shade.length = L := ⟨_, rfl⟩
        rw [hL] at hln hLok hLs
        have h6 := h.sh
        have htk : List.take L.length (L.flatMap Ad.cs) = L.flatMap Ad.cs := List.take_of_length_le (by rw [flat_len Ad.cs (n := 1) (fun _ => rfl)]; omega)
        have hlen : (List.map PV.t (L.flatMap Ad.cs)).length = L.length := by rw [List.length_map, flat_len Ad.cs (n := 1) (fun _ => rfl), Nat.mul_one]
        have hlen2 : (L.flatMap Ad.cs).length = L.length := by rw [flat_len Ad.cs (n := 1) (fun _ => rfl), Nat.mul_one]
        have h16 : L.length ≤ 16 := by omega
        obtain ⟨M, hM⟩ : ∃ M, shs x p.s.toNat = M := ⟨_, rfl⟩
        have hLs' : sumL (L.map (·.at' p.a)) = M := by rw [hLs, ← hM]; rfl
        rw [hM] at hsb
        have w1 : IntKind.i64.wrap (p.t - p.a) = p.t - p.a := wrap_in (by omega) (by omega)
        have w2 : IntKind.i64.wrap (p.t - p.a - M.hi) = p.t - p.a - M.hi := wrap_in (by omega) (by omega)
        have w3 : IntKind.i64.wrap (p.t - p.a - M.lo) = p.t - p.a - M.lo := wrap_in (by omega) (by omega)
        have htr : trS x p = ⟨p.t - p.a - M.hi, p.t - p.a - M.lo⟩ := by unfold trS; rw [hM]
        have n1 := sumsN_take (x := x) hp
        have n2 := atN_take (x := x) hp
        have hcl : ∀ k, (List.flatMap Span.cs (sumsN x (l.take j) k)).length = (sumsN x (l.take j) k).length * 2 := fun k => flat_len Span.cs (n := 2) (fun _ => rfl) _
        have hrm : ∀ k, ((sumsN x (l.take j) k).length + 1) * 16 ≤ 140737488355328 := fun k => by
          have := sumsN_len x (l.take j) k
          rw [List.length_take] at this
          omega
        rw [htr] at n1
        rcases lt12 hk12 with hk | hk | hk | hk | hk | hk | hk | hk | hk | hk | hk | hk
        all_goals
          rw [hk] at qk w0 n1 n2
          simp (decide := true) (maxSteps := 4000000) only [go_sem, Nat.reduceAdd, Nat.reduceSub, Nat.reduceMul, Nat.reduceDiv, Nat.reduceMod, Nat.reduceLT, Nat.reduceLeDiff, Nat.reduceEqDiff, Nat.reduceBEq, Nat.reduceBNe, Nat.reduceGT, Int.reduceAdd, Int.reduceSub, Int.reduceMul, Int.reduceNeg, Int.reduceLT, Int.reduceLE, Int.reduceEq, Int.reduceNe, Int.reduceBEq, Int.reduceBNe, Int.reduceToNat, Int.reduceGT, Int.reduceGE, ↓reduceIte, decide_true, decide_false, eq_self, Nat.mul_one, Nat.zero_mul, Nat.one_mul, Int.le_refl, Nat.le_refl, Int.cast_ofNat_Int, hlt, hd, Tr.cs, Sx.cs, hne, q1, qk, wl0, wl1, wl2, wl3, wl4, wl5, wl6, wl7, wl8, wl9, wl10, wl11, unS_eq, rS, e0, hv, hs64, hL, rdV, rdO, freezeW, freezeO, closedG, seenF, wr, upo, htk, hlen, hlen2, h16, hLok, hLs', List.drop_zero, Nat.mul_one, Nat.zero_add, Nat.zero_mul, Span.t, Span.cs, w1, w2, w3, hcl, hrm]
          refine hI1 _ ⟨j + 1, by omega⟩ (by simp only; omega) ?_
          simp (decide := true) (maxSteps := 4000000) only [go_sem, Nat.reduceAdd, Nat.reduceSub, Nat.reduceMul, Nat.reduceDiv, Nat.reduceMod, Nat.reduceLT, Nat.reduceLeDiff, Nat.reduceEqDiff, Nat.reduceBEq, Nat.reduceBNe, Nat.reduceGT, Int.reduceAdd, Int.reduceSub, Int.reduceMul, Int.reduceNeg, Int.reduceLT, Int.reduceLE, Int.reduceEq, Int.reduceNe, Int.reduceBEq, Int.reduceBNe, Int.reduceToNat, Int.reduceGT, Int.reduceGE, ↓reduceIte, decide_true, decide_false, eq_self, Nat.mul_one, Nat.zero_mul, Nat.one_mul, Int.le_refl, Nat.le_refl, Int.cast_ofNat_Int, hc1, n1, n2, List.flatMap_append, List.length_append, Span.cs, Sx.cs]
      · have hje : j = l.length := by omega
        subst hje
        simp (decide := true) (maxSteps := 4000000) only [go_sem, Nat.reduceAdd, Nat.reduceSub, Nat.reduceMul, Nat.reduceDiv, Nat.reduceMod, Nat.reduceLT, Nat.reduceLeDiff, Nat.reduceEqDiff, Nat.reduceBEq, Nat.reduceBNe, Nat.reduceGT, Int.reduceAdd, Int.reduceSub, Int.reduceMul, Int.reduceNeg, Int.reduceLT, Int.reduceLE, Int.reduceEq, Int.reduceNe, Int.reduceBEq, Int.reduceBNe, Int.reduceToNat, Int.reduceGT, Int.reduceGE, ↓reduceIte, decide_true, decide_false, eq_self, Nat.mul_one, Nat.zero_mul, Nat.one_mul, Int.le_refl, Nat.le_refl, Int.cast_ofNat_Int, hlt]
        refine hQ1 _ _ ?_
        rw [List.take_length]
        simp (decide := true) (maxSteps := 4000000) only [go_sem, Nat.reduceAdd, Nat.reduceSub, Nat.reduceMul, Nat.reduceDiv, Nat.reduceMod, Nat.reduceLT, Nat.reduceLeDiff, Nat.reduceEqDiff, Nat.reduceBEq, Nat.reduceBNe, Nat.reduceGT, Int.reduceAdd, Int.reduceSub, Int.reduceMul, Int.reduceNeg, Int.reduceLT, Int.reduceLE, Int.reduceEq, Int.reduceNe, Int.reduceBEq, Int.reduceBNe, Int.reduceToNat, Int.reduceGT, Int.reduceGE, ↓reduceIte, decide_true, decide_false, eq_self, Nat.mul_one, Nat.zero_mul, Nat.one_mul, Int.le_refl, Nat.le_refl, Int.cast_ofNat_Int, heardT, heardC, rowSp, freezeW, freezeO, thawA, wr, upo]
end Go.Proofs.Ytjmkccckohcfkaa

/- Part Sj. -/
namespace Go.Os
open Go Go.Pm Go.Oc Go.Oh
def trTo (x : Sx) (l : List Tr) (k : Nat) : Bool := inB l.length 1 8 && (l.take k).all (trB x)
theorem trTo_succ {x : Sx} {l : List Tr} {k : Nat} {p : Tr} (h : l[k]? = some p) : trTo x l (k + 1) = (trTo x l k && (isRd x p.a p.s && (decide (p.a % x.step = 0) && inB p.t (-10000) 510000))) := by
  unfold trTo; rw [take_all (trB x) h]; unfold trB; simp only [Bool.and_assoc]
/-- With which error a sextant and trials are opened. -/
def openedE (x : Sx) (l : List Tr) : Int := if sxOk x then (if trsOk x l then 0 else 53) else 50
def openedT (x : Sx) (sT sS : TV) : TV := if sxOk x then x.t sT sS else .agg [.int .i64 0, .nilSl, .int .i64 0, .int .i64 0, .int .i64 0, .nilSl]
theorem and4 : ∀ a b c d : Bool, ((a && b && c) && d) = (a && (b && (c && d))) := by decide
theorem tmod0 (a b : Int) : (a.tmod b == 0) = decide (a % b = 0) := by
  have : a.tmod b = 0 ↔ a % b = 0 := by rw [← Int.dvd_iff_tmod_eq_zero, ← Int.dvd_iff_emod_eq_zero]
  by_cases h : a % b = 0
  · rw [decide_eq_true h]; simp [this.2 h]
  · rw [decide_eq_false h]; simp [mt this.1 h]
theorem tmod_b (a : Int) {b : Int} (h : 0 < b) : -b < a.tmod b ∧ a.tmod b < b := by
  have := Int.tmod_lt_of_pos a h
  have h6 := Int.tmod_lt_of_pos (-a) h
  rw [Int.neg_tmod] at h6
  omega
end Go.Os
namespace Go.Proofs.Ytjmkccckohcfkaa
open Go.RowKit Go.Pm Go.Oc Go.Oh Go.Os
set_option maxRecDepth 100000
set_option linter.unusedVariables false
set_option maxHeartbeats 8000000

noncomputable def spJa : Pm.Spec := ((spSa.one 17 sxCheck).one 55 sxIsReading)
@[go_sem] theorem spJa_p (f : FuncId) (xs : List TV) : spJa.p f xs = Pm.Spec.p (((spSa.one 17 sxCheck).one 55 sxIsReading)) f xs := rfl
@[go_sem] theorem spJa_h (f : FuncId) (ps : List PV) (hl : List PO) : spJa.h f ps hl = Pm.Spec.h (((spSa.one 17 sxCheck).one 55 sxIsReading)) f ps hl := rfl
@[go_sem] theorem spJa_fz (f : FuncId) : spJa.fz f = Pm.Spec.fz (((spSa.one 17 sxCheck).one 55 sxIsReading)) f := rfl
@[go_sem] theorem spJa_fr (f : FuncId) : spJa.fr f = Pm.Spec.fr (((spSa.one 17 sxCheck).one 55 sxIsReading)) f := rfl
@[go_sem] theorem spJa_mu (t : TypeId) : spJa.mu t = Pm.Spec.mu (((spSa.one 17 sxCheck).one 55 sxIsReading)) t := rfl
@[go_sem] theorem spJa_nf (t : TypeId) : spJa.nf t = Pm.Spec.nf (((spSa.one 17 sxCheck).one 55 sxIsReading)) t := rfl
theorem spJa_ok : SpecOk Try.prog spJa := Spec.one_ok sxIsReading_ok (Spec.one_ok sxCheck_ok spSa_ok)
theorem sOpened_c (x : Sx) {sT sS : TV} (hT : IsRow Span.cs sT x.tab) (hS : IsRow Span.cs sS x.shade) (lT : x.tab.length ≤ 9000000000000) (lS : x.shade.length ≤ 9000000000000) {l : List Tr} {s : TV} (hs : IsRow Tr.cs s l) (ll : l.length ≤ 9000000000000) :
    PCalls Try.prog 75 [x.t sT sS, s] (.tup [openedT x sT sS, .int .i64 (openedE x l)]) := by
  have rT := rowS_is hT
  have rS := rowS_is hS
  unfold rowL at rT rS
  simp only [unS_nil] at rT rS
  have e0 : Sx.mk x.step x.tab ⟨x.idx.lo, x.idx.hi⟩ x.wrong x.shade = x := rfl
  refine pcalls_by Try.mixes spJa_ok (fn := Try.f75) Try.func75 rfl (by kernel_rfl) (by show 2 ≤ _; decide) ?_
  unfold openedT openedE
  cases hv : sxOk x with
  | false =>
    have b : ((50 : Int) != 0) = true := rfl
    rcases hs with ⟨rfl, rfl⟩ | ⟨g, rfl⟩ <;> simp (decide := true) (maxSteps := 4000000) only [go_sem, Nat.reduceAdd, Nat.reduceSub, Nat.reduceMul, Nat.reduceDiv, Nat.reduceMod, Nat.reduceLT, Nat.reduceLeDiff, Nat.reduceEqDiff, Nat.reduceBEq, Nat.reduceBNe, Nat.reduceGT, Int.reduceAdd, Int.reduceSub, Int.reduceMul, Int.reduceNeg, Int.reduceLT, Int.reduceLE, Int.reduceEq, Int.reduceNe, Int.reduceBEq, Int.reduceBNe, Int.reduceToNat, Int.reduceGT, Int.reduceGE, ↓reduceIte, decide_true, decide_false, eq_self, Nat.mul_one, Nat.zero_mul, Nat.one_mul, Int.le_refl, Nat.le_refl, Int.cast_ofNat_Int, Try.f75, Sx.t, Sx.cs, rT, rS, lT, lS, e0, hv, b]
  | true =>
    have h := sxOk_iff.1 hv
    obtain ⟨f, rfl⟩ := good_T h hT
    have b : ((0 : Int) != 0) = false := rfl
    have hend : trTo x l l.length = trsOk x l := by unfold trTo trsOk; rw [List.take_length]
    have hcase : trTo x l 0 = inB l.length 1 8 := by simp [trTo]
    rcases hs with ⟨rfl, rfl⟩ | ⟨g, rfl⟩
    · have c1 : inB 0 1 8 = false := rfl
      have c2 : trsOk x [] = false := by rw [← hend]; simp [trTo, c1]
      simp (decide := true) (maxSteps := 4000000) only [go_sem, Nat.reduceAdd, Nat.reduceSub, Nat.reduceMul, Nat.reduceDiv, Nat.reduceMod, Nat.reduceLT, Nat.reduceLeDiff, Nat.reduceEqDiff, Nat.reduceBEq, Nat.reduceBNe, Nat.reduceGT, Int.reduceAdd, Int.reduceSub, Int.reduceMul, Int.reduceNeg, Int.reduceLT, Int.reduceLE, Int.reduceEq, Int.reduceNe, Int.reduceBEq, Int.reduceBNe, Int.reduceToNat, Int.reduceGT, Int.reduceGE, ↓reduceIte, decide_true, decide_false, eq_self, Nat.mul_one, Nat.zero_mul, Nat.one_mul, Int.le_refl, Nat.le_refl, Int.cast_ofNat_Int, Try.f75, Sx.t, Sx.cs, rT, rS, unS_eq, lT, lS, e0, hv, b, c1]
      refine pwpC_loopU (A := Unit) [2, 4, 5, 7, 22, 23] (fun _ => [(24, .t (.int .i64 0)), (8, .t (.bool false))]) (fun _ => []) (fun _ => 0) () (by decide) (fun _ => by rfl) ?_ fun Q1 hQ1 _ I1 hI1 => ?_
      · simp (decide := true) (maxSteps := 4000000) only [go_sem, Nat.reduceAdd, Nat.reduceSub, Nat.reduceMul, Nat.reduceDiv, Nat.reduceMod, Nat.reduceLT, Nat.reduceLeDiff, Nat.reduceEqDiff, Nat.reduceBEq, Nat.reduceBNe, Nat.reduceGT, Int.reduceAdd, Int.reduceSub, Int.reduceMul, Int.reduceNeg, Int.reduceLT, Int.reduceLE, Int.reduceEq, Int.reduceNe, Int.reduceBEq, Int.reduceBNe, Int.reduceToNat, Int.reduceGT, Int.reduceGE, ↓reduceIte, decide_true, decide_false, eq_self, Nat.mul_one, Nat.zero_mul, Nat.one_mul, Int.le_refl, Nat.le_refl, Int.cast_ofNat_Int]
      · simp (decide := true) (maxSteps := 4000000) only [go_sem, Nat.reduceAdd, Nat.reduceSub, Nat.reduceMul, Nat.reduceDiv, Nat.reduceMod, Nat.reduceLT, Nat.reduceLeDiff, Nat.reduceEqDiff, Nat.reduceBEq, Nat.reduceBNe, Nat.reduceGT, Int.reduceAdd, Int.reduceSub, Int.reduceMul, Int.reduceNeg, Int.reduceLT, Int.reduceLE, Int.reduceEq, Int.reduceNe, Int.reduceBEq, Int.reduceBNe, Int.reduceToNat, Int.reduceGT, Int.reduceGE, ↓reduceIte, decide_true, decide_false, eq_self, Nat.mul_one, Nat.zero_mul, Nat.one_mul, Int.le_refl, Nat.le_refl, Int.cast_ofNat_Int]
        refine hQ1 _ _ ?_
        simp (decide := true) (maxSteps := 4000000) only [go_sem, Nat.reduceAdd, Nat.reduceSub, Nat.reduceMul, Nat.reduceDiv, Nat.reduceMod, Nat.reduceLT, Nat.reduceLeDiff, Nat.reduceEqDiff, Nat.reduceBEq, Nat.reduceBNe, Nat.reduceGT, Int.reduceAdd, Int.reduceSub, Int.reduceMul, Int.reduceNeg, Int.reduceLT, Int.reduceLE, Int.reduceEq, Int.reduceNe, Int.reduceBEq, Int.reduceBNe, Int.reduceToNat, Int.reduceGT, Int.reduceGE, ↓reduceIte, decide_true, decide_false, eq_self, Nat.mul_one, Nat.zero_mul, Nat.one_mul, Int.le_refl, Nat.le_refl, Int.cast_ofNat_Int, c2]
    · simp (decide := true) (maxSteps := 4000000) only [go_sem, Nat.reduceAdd, Nat.reduceSub, Nat.reduceMul, Nat.reduceDiv, Nat.reduceMod, Nat.reduceLT, Nat.reduceLeDiff, Nat.reduceEqDiff, Nat.reduceBEq, Nat.reduceBNe, Nat.reduceGT, Int.reduceAdd, Int.reduceSub, Int.reduceMul, Int.reduceNeg, Int.reduceLT, Int.reduceLE, Int.reduceEq, Int.reduceNe, Int.reduceBEq, Int.reduceBNe, Int.reduceToNat, Int.reduceGT, Int.reduceGE, ↓reduceIte, decide_true, decide_false, eq_self, Nat.mul_one, Nat.zero_mul, Nat.one_mul, Int.le_refl, Nat.le_refl, Int.cast_ofNat_Int, Try.f75, Sx.t, Sx.cs, rT, rS, unS_eq, lT, lS, e0, hv, b]
      refine pwpC_loopU (A := { k : Nat // k ≤ l.length }) [2, 4, 5, 7, 22, 23] (fun k => [(24, .t (.int .i64 k.1)), (8, .t (.bool (trTo x l k.1)))]) (fun _ => []) (fun k => l.length - k.1) ⟨0, by omega⟩ (by decide) (fun _ => by rfl) ?_ fun Q1 hQ1 ⟨k, hk⟩ I1 hI1 => ?_
      · simp (decide := true) (maxSteps := 4000000) only [go_sem, Nat.reduceAdd, Nat.reduceSub, Nat.reduceMul, Nat.reduceDiv, Nat.reduceMod, Nat.reduceLT, Nat.reduceLeDiff, Nat.reduceEqDiff, Nat.reduceBEq, Nat.reduceBNe, Nat.reduceGT, Int.reduceAdd, Int.reduceSub, Int.reduceMul, Int.reduceNeg, Int.reduceLT, Int.reduceLE, Int.reduceEq, Int.reduceNe, Int.reduceBEq, Int.reduceBNe, Int.reduceToNat, Int.reduceGT, Int.reduceGE, ↓reduceIte, decide_true, decide_false, eq_self, Nat.mul_one, Nat.zero_mul, Nat.one_mul, Int.le_refl, Nat.le_refl, Int.cast_ofNat_Int, hcase]
      · by_cases hlt : (k : Int) < l.length
        · obtain ⟨p, hp⟩ := get_lt hlt
          have hd := flat_at Tr.cs (n := 3) (fun _ => rfl) hp
          have hc1 : IntKind.i64.wrap (k + 1) = ((k + 1 : Nat) : Int) := by rw [wrap_in (by omega) (by omega)]; omega
          have hst := h.st
          have hne : ¬ x.step = 0 := by omega
          have htb := tmod_b p.a (show 0 < x.step by omega)
          have w1 : IntKind.i64.wrap (p.a.tmod x.step) = p.a.tmod x.step := wrap_in (by omega) (by omega)
          have htm := tmod0 p.a x.step
          have hnx := trTo_succ (x := x) hp
          obtain ⟨B, hB⟩ : ∃ B, trTo x l k = B := ⟨_, rfl⟩
          rw [hB] at hnx
          simp (decide := true) (maxSteps := 4000000) only [go_sem, Nat.reduceAdd, Nat.reduceSub, Nat.reduceMul, Nat.reduceDiv, Nat.reduceMod, Nat.reduceLT, Nat.reduceLeDiff, Nat.reduceEqDiff, Nat.reduceBEq, Nat.reduceBNe, Nat.reduceGT, Int.reduceAdd, Int.reduceSub, Int.reduceMul, Int.reduceNeg, Int.reduceLT, Int.reduceLE, Int.reduceEq, Int.reduceNe, Int.reduceBEq, Int.reduceBNe, Int.reduceToNat, Int.reduceGT, Int.reduceGE, ↓reduceIte, decide_true, decide_false, eq_self, Nat.mul_one, Nat.zero_mul, Nat.one_mul, Int.le_refl, Nat.le_refl, Int.cast_ofNat_Int, hlt, hd, Tr.cs, Sx.cs, hB, rS, unS_eq, e0, hv, hne, w1, htm]
          refine hI1 _ ⟨k + 1, by omega⟩ (by simp only; omega) ?_
          simp (decide := true) (maxSteps := 4000000) only [go_sem, Nat.reduceAdd, Nat.reduceSub, Nat.reduceMul, Nat.reduceDiv, Nat.reduceMod, Nat.reduceLT, Nat.reduceLeDiff, Nat.reduceEqDiff, Nat.reduceBEq, Nat.reduceBNe, Nat.reduceGT, Int.reduceAdd, Int.reduceSub, Int.reduceMul, Int.reduceNeg, Int.reduceLT, Int.reduceLE, Int.reduceEq, Int.reduceNe, Int.reduceBEq, Int.reduceBNe, Int.reduceToNat, Int.reduceGT, Int.reduceGE, ↓reduceIte, decide_true, decide_false, eq_self, Nat.mul_one, Nat.zero_mul, Nat.one_mul, Int.le_refl, Nat.le_refl, Int.cast_ofNat_Int, hc1, hnx, and4]
        · have hke : k = l.length := by omega
          subst hke
          simp (decide := true) (maxSteps := 4000000) only [go_sem, Nat.reduceAdd, Nat.reduceSub, Nat.reduceMul, Nat.reduceDiv, Nat.reduceMod, Nat.reduceLT, Nat.reduceLeDiff, Nat.reduceEqDiff, Nat.reduceBEq, Nat.reduceBNe, Nat.reduceGT, Int.reduceAdd, Int.reduceSub, Int.reduceMul, Int.reduceNeg, Int.reduceLT, Int.reduceLE, Int.reduceEq, Int.reduceNe, Int.reduceBEq, Int.reduceBNe, Int.reduceToNat, Int.reduceGT, Int.reduceGE, ↓reduceIte, decide_true, decide_false, eq_self, Nat.mul_one, Nat.zero_mul, Nat.one_mul, Int.le_refl, Nat.le_refl, Int.cast_ofNat_Int, hlt]
          refine hQ1 _ _ ?_
          cases hsu : trsOk x l with
          | false => simp (decide := true) (maxSteps := 4000000) only [go_sem, Nat.reduceAdd, Nat.reduceSub, Nat.reduceMul, Nat.reduceDiv, Nat.reduceMod, Nat.reduceLT, Nat.reduceLeDiff, Nat.reduceEqDiff, Nat.reduceBEq, Nat.reduceBNe, Nat.reduceGT, Int.reduceAdd, Int.reduceSub, Int.reduceMul, Int.reduceNeg, Int.reduceLT, Int.reduceLE, Int.reduceEq, Int.reduceNe, Int.reduceBEq, Int.reduceBNe, Int.reduceToNat, Int.reduceGT, Int.reduceGE, ↓reduceIte, decide_true, decide_false, eq_self, Nat.mul_one, Nat.zero_mul, Nat.one_mul, Int.le_refl, Nat.le_refl, Int.cast_ofNat_Int, hend, hsu, Sx.cs]
          | true => simp (decide := true) (maxSteps := 4000000) only [go_sem, Nat.reduceAdd, Nat.reduceSub, Nat.reduceMul, Nat.reduceDiv, Nat.reduceMod, Nat.reduceLT, Nat.reduceLeDiff, Nat.reduceEqDiff, Nat.reduceBEq, Nat.reduceBNe, Nat.reduceGT, Int.reduceAdd, Int.reduceSub, Int.reduceMul, Int.reduceNeg, Int.reduceLT, Int.reduceLE, Int.reduceEq, Int.reduceNe, Int.reduceBEq, Int.reduceBNe, Int.reduceToNat, Int.reduceGT, Int.reduceGE, ↓reduceIte, decide_true, decide_false, eq_self, Nat.mul_one, Nat.zero_mul, Nat.one_mul, Int.le_refl, Nat.le_refl, Int.cast_ofNat_Int, hend, hsu, Sx.cs]
end Go.Proofs.Ytjmkccckohcfkaa

/- Part Sk. -/
namespace Go.Proofs.Ytjmkccckohcfkaa
open Go.RowKit Go.Pm Go.Oc Go.Oh Go.Os
set_option maxRecDepth 100000
set_option linter.unusedVariables false
set_option maxHeartbeats 8000000

noncomputable def spKa : Pm.Spec := { noSpec with mu := fun t => t == 22 }
@[go_sem] theorem spKa_p (f : FuncId) (xs : List TV) : spKa.p f xs = Pm.Spec.p ({ noSpec with mu := fun t => t == 22 }) f xs := rfl
@[go_sem] theorem spKa_h (f : FuncId) (ps : List PV) (hl : List PO) : spKa.h f ps hl = Pm.Spec.h ({ noSpec with mu := fun t => t == 22 }) f ps hl := rfl
@[go_sem] theorem spKa_fz (f : FuncId) : spKa.fz f = Pm.Spec.fz ({ noSpec with mu := fun t => t == 22 }) f := rfl
@[go_sem] theorem spKa_fr (f : FuncId) : spKa.fr f = Pm.Spec.fr ({ noSpec with mu := fun t => t == 22 }) f := rfl
@[go_sem] theorem spKa_mu (t : TypeId) : spKa.mu t = Pm.Spec.mu ({ noSpec with mu := fun t => t == 22 }) t := rfl
@[go_sem] theorem spKa_nf (t : TypeId) : spKa.nf t = Pm.Spec.nf ({ noSpec with mu := fun t => t == 22 }) t := rfl
theorem spKa_ok : SpecOk Try.prog spKa := ⟨noSpec_ok.1, noSpec_ok.2⟩
def clV (n : Nat) : PV := .gsl 0 1 2 0 n false
def clO (l : List Span) : List PO := [.grow 1 ((l.flatMap Span.cs).map .t) 24 2]
theorem sClone_c (l : List Span) (f : Bool) (hl : 1 ≤ l.length) (hm : l.length ≤ 12) : HCalls Try.prog 78 [.t (.sl (l.flatMap Span.cs) l.length f)] (getL []) (clV l.length) (getL (clO l)) := by
  have hcl : (List.flatMap Span.cs l).length = l.length * 2 := flat_len Span.cs (n := 2) (fun _ => rfl) l
  have h0 : ¬ l.length = 0 := by omega
  have h1 : l.length * 16 ≤ 140737488355328 := by omega
  refine hcalls_by Try.mixes spKa_ok (fn := Try.f78) Try.func78 rfl (by kernel_rfl) (by show 1 ≤ _; decide) ?_
  simp (decide := true) (maxSteps := 4000000) only [go_sem, Nat.reduceAdd, Nat.reduceSub, Nat.reduceMul, Nat.reduceDiv, Nat.reduceMod, Nat.reduceLT, Nat.reduceLeDiff, Nat.reduceEqDiff, Nat.reduceBEq, Nat.reduceBNe, Nat.reduceGT, Int.reduceAdd, Int.reduceSub, Int.reduceMul, Int.reduceNeg, Int.reduceLT, Int.reduceLE, Int.reduceEq, Int.reduceNe, Int.reduceBEq, Int.reduceBNe, Int.reduceToNat, Int.reduceGT, Int.reduceGE, ↓reduceIte, decide_true, decide_false, eq_self, Nat.mul_one, Nat.zero_mul, Nat.one_mul, Int.le_refl, Nat.le_refl, Int.cast_ofNat_Int, Try.f78, clV, clO, hcl, h0, h1]
  exact ⟨_, rfl, rfl⟩
noncomputable def sxClone : List PV → List PO → Option (PV × List PO)
  | [.t (.sl cs n f)], [] => match unS cs with
    | some l => if 1 ≤ l.length ∧ l.length ≤ 12 ∧ n = l.length then some (clV l.length, clO l) else none
    | none => none
  | _, _ => none
theorem sxClone_ok : ∀ xs hl r hl', sxClone xs hl = some (r, hl') → HCalls Try.prog 78 xs (getL hl) r (getL hl') := by
  intro xs hl r hl' h
  unfold sxClone at h
  split at h
  · rename_i cs n f
    split at h
    · rename_i l hl
      split at h
      · rename_i hc
        simp only [Option.some.injEq, Prod.mk.injEq] at h
        obtain ⟨rfl, rfl⟩ := h
        obtain ⟨h1, h2, rfl⟩ := hc
        rw [unS_some hl]
        exact sClone_c l f h1 h2
      · cases h
    · cases h
  · cases h
attribute [go_sem] sxClone
noncomputable def spKb : Pm.Spec := { noSpec with fz := fun _ => true }
@[go_sem] theorem spKb_p (f : FuncId) (xs : List TV) : spKb.p f xs = Pm.Spec.p ({ noSpec with fz := fun _ => true }) f xs := rfl
@[go_sem] theorem spKb_h (f : FuncId) (ps : List PV) (hl : List PO) : spKb.h f ps hl = Pm.Spec.h ({ noSpec with fz := fun _ => true }) f ps hl := rfl
@[go_sem] theorem spKb_fz (f : FuncId) : spKb.fz f = Pm.Spec.fz ({ noSpec with fz := fun _ => true }) f := rfl
@[go_sem] theorem spKb_fr (f : FuncId) : spKb.fr f = Pm.Spec.fr ({ noSpec with fz := fun _ => true }) f := rfl
@[go_sem] theorem spKb_mu (t : TypeId) : spKb.mu t = Pm.Spec.mu ({ noSpec with fz := fun _ => true }) t := rfl
@[go_sem] theorem spKb_nf (t : TypeId) : spKb.nf t = Pm.Spec.nf ({ noSpec with fz := fun _ => true }) t := rfl
theorem spKb_ok : SpecOk Try.prog spKb := ⟨noSpec_ok.1, noSpec_ok.2⟩
theorem sTables_c (x : Sx) (sT sS : TV) (hT : ∃ cs n f, sT = .sl cs n f) (b0 b1 b2 b3 b4 b5 b6 b7 b8 b9 b10 b11 : Bool) (t : TypeId) (vs : List TV) :
    PCalls Try.prog 76 [x.t sT sS, .agg [.bool b0, .bool b1, .bool b2, .bool b3, .bool b4, .bool b5, .bool b6, .bool b7, .bool b8, .bool b9, .bool b10, .bool b11, .imap t vs]] (.fn 99 [] [.cptr (x.cs sT sS), .cptr [.bool b0, .bool b1, .bool b2, .bool b3, .bool b4, .bool b5, .bool b6, .bool b7, .bool b8, .bool b9, .bool b10, .bool b11, .imap t vs]]) := by
  refine pcalls_by Try.mixes spKb_ok (fn := Try.f76) Try.func76 rfl (by kernel_rfl) (by show 2 ≤ _; decide) ?_
  simp (decide := true) (maxSteps := 4000000) only [go_sem, Nat.reduceAdd, Nat.reduceSub, Nat.reduceMul, Nat.reduceDiv, Nat.reduceMod, Nat.reduceLT, Nat.reduceLeDiff, Nat.reduceEqDiff, Nat.reduceBEq, Nat.reduceBNe, Nat.reduceGT, Int.reduceAdd, Int.reduceSub, Int.reduceMul, Int.reduceNeg, Int.reduceLT, Int.reduceLE, Int.reduceEq, Int.reduceNe, Int.reduceBEq, Int.reduceBNe, Int.reduceToNat, Int.reduceGT, Int.reduceGE, ↓reduceIte, decide_true, decide_false, eq_self, Nat.mul_one, Nat.zero_mul, Nat.one_mul, Int.le_refl, Nat.le_refl, Int.cast_ofNat_Int, Try.f76, Sx.t, Sx.cs]
noncomputable def sxTables : List TV → Option TV
  | [.agg [.int .i64 a0, .sl cs n f, .int .i64 a1, .int .i64 a2, .int .i64 a3, sS], .agg [.bool b0, .bool b1, .bool b2, .bool b3, .bool b4, .bool b5, .bool b6, .bool b7, .bool b8, .bool b9, .bool b10, .bool b11, .imap t vs]] => some (.fn 99 [] [.cptr [.int .i64 a0, .sl cs n f, .int .i64 a1, .int .i64 a2, .int .i64 a3, sS], .cptr [.bool b0, .bool b1, .bool b2, .bool b3, .bool b4, .bool b5, .bool b6, .bool b7, .bool b8, .bool b9, .bool b10, .bool b11, .imap t vs]])
  | _ => none
theorem sxTables_ok : ∀ xs r, sxTables xs = some r → PCalls Try.prog 76 xs r := by
  intro xs r h
  unfold sxTables at h
  split at h
  · cases h; exact sTables_c ⟨_, [], ⟨_, _⟩, _, []⟩ _ _ ⟨_, _, _, rfl⟩ _ _ _ _ _ _ _ _ _ _ _ _ _ _
  · cases h
attribute [go_sem] sxTables
end Go.Proofs.Ytjmkccckohcfkaa

/- Part Sl. -/
namespace Go.Os
open Go Go.Pm Go.Oc Go.Oh
/-- What is left of the corrections at an angle with an index error. -/
def accS (i : Int) (c : Span) (l : List Span) : Span := l.foldl (fun a s => ⟨max a.lo (s.lo - i), min a.hi (s.hi - i)⟩) c
theorem accS_take {i : Int} {c : Span} {l : List Span} {j : Nat} {s : Span} (h : l[j]? = some s) : accS i c (l.take (j + 1)) = ⟨max (accS i c (l.take j)).lo (s.lo - i), min (accS i c (l.take j)).hi (s.hi - i)⟩ := by
  unfold accS; rw [take_snoc h, List.foldl_append]; rfl
def tabK (x : Sx) (l : List Tr) (i : Int) (k : Nat) : Span := accS i (atS x.tab k) (sumsN x l k)
def okT (x : Sx) (l : List Tr) (i : Int) : Bool := (List.range x.tab.length).all fun k => decide ((tabK x l i k).lo ≤ (tabK x l i k).hi)
def tabR (x : Sx) (l : List Tr) (i : Int) : List Span := (List.range x.tab.length).map (tabK x l i)
def tabL (x : Sx) (l : List Tr) (i : Int) (k : Nat) : List Span := (List.range x.tab.length).map fun j => if j < k then tabK x l i j else atS x.tab j
theorem tabL_len (x : Sx) (l : List Tr) (i : Int) (k : Nat) : (tabL x l i k).length = x.tab.length := by simp [tabL]
theorem tabR_len (x : Sx) (l : List Tr) (i : Int) : (tabR x l i).length = x.tab.length := by simp [tabR]
theorem tabL_zero (x : Sx) (l : List Tr) (i : Int) : tabL x l i 0 = x.tab := by
  refine List.ext_getElem (tabL_len _ _ _ _) fun j h1 h2 => ?_
  simp only [tabL, List.getElem_map, List.getElem_range, Nat.not_lt_zero, if_false]
  exact atS_eq (List.getElem?_eq_getElem h2)
theorem tabL_end (x : Sx) (l : List Tr) (i : Int) : tabL x l i x.tab.length = tabR x l i := by
  unfold tabL tabR
  exact List.map_congr_left fun j hj => if_pos (List.mem_range.1 hj)
theorem tabL_succ (x : Sx) (l : List Tr) (i : Int) (k : Nat) : tabL x l i (k + 1) = (tabL x l i k).set k (tabK x l i k) := by
  refine List.ext_getElem (by simp [tabL_len]) fun j h1 h2 => ?_
  rw [List.getElem_set]
  simp only [tabL, List.getElem_map, List.getElem_range]
  by_cases e : k = j
  · subst e; simp
  · rw [if_neg e]
    by_cases h : j < k
    · rw [if_pos h, if_pos (by omega)]
    · rw [if_neg h, if_neg (by omega)]
theorem tabL_at (x : Sx) (l : List Tr) (i : Int) {k : Nat} (h : k < x.tab.length) : (tabL x l i k)[k]? = some (atS x.tab k) := by
  unfold tabL; rw [List.getElem?_map, List.getElem?_range h]; simp
theorem tabL_set0 (x : Sx) (l : List Tr) (i : Int) {k : Nat} (h : k < x.tab.length) : (tabL x l i k).set k (atS x.tab k) = tabL x l i k := by
  refine List.ext_getElem (by simp) fun j h1 h2 => ?_
  rw [List.getElem_set]
  split
  · rename_i e; subst e; have := tabL_at x l i h; rw [List.getElem?_eq_getElem h2] at this; exact (Option.some.inj this).symm
  · rfl
def cntT (p : Nat → Bool) (i : Nat) : Nat := ((List.range i).filter p).length
theorem cntT_succ (p : Nat → Bool) (i : Nat) : cntT p (i + 1) = cntT p i + if p i then 1 else 0 := by
  unfold cntT; rw [List.range_succ, List.filter_append, List.length_append]
  cases h : p i <;> simp [h]
theorem cntT_mono (p : Nat → Bool) {i j : Nat} (h : i ≤ j) : cntT p i ≤ cntT p j := by
  induction j with
  | zero => have : i = 0 := by omega
            subst this; exact Nat.le_refl _
  | succ j ih =>
    by_cases e : i = j + 1
    · subst e; exact Nat.le_refl _
    · have := ih (by omega); rw [cntT_succ]; omega
theorem filt_at (p : Nat → Bool) {i : Nat} (hp : p i = true) : ∀ {N : Nat}, i < N → ((List.range N).filter p)[cntT p i]? = some i
  | 0, h => by omega
  | N + 1, h => by
    rw [List.range_succ, List.filter_append]
    by_cases e : i = N
    · subst e
      rw [List.getElem?_append_right (by unfold cntT; exact Nat.le_refl _)]
      simp [cntT, hp]
    · have ih := filt_at p hp (show i < N by omega)
      rw [List.getElem?_append_left (List.getElem?_eq_some_iff.1 ih).1]
      exact ih
/-- Where a range over what passes is left. -/
theorem stopAt (p : Nat → Bool) {N M : Nat} {stop : Bool} (h1 : M ≤ cntT p N) (h2 : stop = false → M = cntT p N) (h3 : stop = true → 0 < M) :
    ∃ m, m ≤ N ∧ (stop = false → m = N) ∧ (stop = true → 0 < m) ∧ cntT p m = M ∧ ∀ i, i < m → (p i = true → cntT p i < M ∧ (stop && cntT p i + 1 == M) = decide (stop = true ∧ i + 1 = m)) ∧ (p i = false → ¬ (stop = true ∧ i + 1 = m)) := by
  cases stop with
  | false =>
    refine ⟨N, Nat.le_refl _, fun _ => rfl, fun h => (by cases h), (h2 rfl).symm, fun i hi => ⟨fun hp => ⟨?_, by simp⟩, fun _ => by simp⟩⟩
    have := cntT_mono p (show i + 1 ≤ N by omega)
    rw [cntT_succ, hp] at this
    have := h2 rfl
    simp at *; omega
  | true =>
    have hM := h3 rfl
    have hl : M - 1 < ((List.range N).filter p).length := by unfold cntT at h1; omega
    obtain ⟨j, hj⟩ : ∃ j, ((List.range N).filter p)[M - 1]? = some j := ⟨_, List.getElem?_eq_getElem hl⟩
    have hmem := List.mem_of_getElem? hj
    rw [List.mem_filter, List.mem_range] at hmem
    have hc : cntT p j = M - 1 := by
      have h4 := filt_at p hmem.2 hmem.1
      have hnd : ((List.range N).filter p).Nodup := List.nodup_range.filter _
      have h5 := (List.getElem?_inj (List.getElem?_eq_some_iff.1 h4).1 hnd).1 (h4.trans hj.symm)
      exact h5
    refine ⟨j + 1, by omega, fun h => (by cases h), fun _ => by omega, by rw [cntT_succ, hmem.2, hc]; simp; omega, fun i hi => ⟨fun hp => ?_, fun hp => ?_⟩⟩
    · by_cases e : i = j
      · subst e; rw [hc]; exact ⟨by omega, by simp; omega⟩
      · have h4 := cntT_mono p (show i + 1 ≤ j by omega)
        rw [cntT_succ, hp, hc] at h4
        simp only [if_true] at h4
        refine ⟨by omega, ?_⟩
        rw [decide_eq_false (by rintro ⟨_, h⟩; omega)]
        simp; omega
    · rintro ⟨_, h⟩
      have : i = j := by omega
      subst this; rw [hmem.2] at hp; cases hp
def okI (x : Sx) (l : List Tr) (j : Nat) : Bool := okT x l (x.idx.lo + (j : Int))
/-- What the range over tables hands out. -/
def tabsV (x : Sx) (l : List Tr) : List (List TV) := ((List.range (idxN x)).filter (okI x l)).map fun (j : Nat) => [.int .i64 (x.idx.lo + (j : Int)), .sl ((tabR x l (x.idx.lo + (j : Int))).flatMap Span.cs) x.tab.length false]
theorem tabsV_at {x : Sx} {l : List Tr} {i : Nat} (hi : i < idxN x) (hp : okI x l i = true) : (tabsV x l)[cntT (okI x l) i]? = some [.int .i64 (x.idx.lo + (i : Int)), .sl ((tabR x l (x.idx.lo + (i : Int))).flatMap Span.cs) x.tab.length false] := by
  unfold tabsV; rw [List.getElem?_map, filt_at _ hp hi]; rfl
theorem set_flat {l : List Span} {k : Nat} (h : k < l.length) (v : Span) : (l.flatMap Span.cs).take (k * 2) ++ v.cs ++ (l.flatMap Span.cs).drop (k * 2 + 2) = (l.set k v).flatMap Span.cs := by
  induction l generalizing k with
  | nil => simp at h
  | cons y l ih =>
    cases k with
    | zero => simp [Span.cs]
    | succ k =>
      have := ih (k := k) (by simpa using h)
      rw [List.set_cons_succ, List.flatMap_cons, List.flatMap_cons, ← this, show (k + 1) * 2 = k * 2 + 1 + 1 by omega, show k * 2 + 1 + 1 + 2 = k * 2 + 2 + 1 + 1 by omega]
      simp [Span.cs]
structure RowF (C : List Span) (n k : Nat) (A : Span) : Prop where
  len : (List.map PV.t (C.flatMap Span.cs)).length = n * 2
  len' : (C.flatMap Span.cs).length = n * 2
  drop : List.drop (k * 2) (List.map PV.t (C.flatMap Span.cs)) = .t (.int .i64 A.lo) :: .t (.int .i64 A.hi) :: List.map PV.t ((C.drop (k + 1)).flatMap Span.cs)
  lo : (List.map PV.t (C.flatMap Span.cs))[k * 2]? = some (.t (.int .i64 A.lo))
  hi : (List.map PV.t (C.flatMap Span.cs))[k * 2 + 1]? = some (.t (.int .i64 A.hi))
  b : k * 2 + 2 ≤ n * 2
  set : ∀ v0 v1 : Int, List.take (k * 2) (List.map PV.t (C.flatMap Span.cs)) ++ [.t (.int .i64 v0), .t (.int .i64 v1)] ++ List.drop (k * 2 + 2) (List.map PV.t (C.flatMap Span.cs)) = List.map PV.t ((C.set k ⟨v0, v1⟩).flatMap Span.cs)
theorem rowF {C : List Span} {n k : Nat} {A : Span} (hn : C.length = n) (h : C[k]? = some A) : RowF C n k A := by
  have hk := (List.getElem?_eq_some_iff.1 h).1
  have h1 := flat_len Span.cs (n := 2) (fun _ => rfl) C
  have h2 := flat_at Span.cs (n := 2) (fun _ => rfl) h
  have h3 : List.drop (k * 2) (List.map PV.t (C.flatMap Span.cs)) = .t (.int .i64 A.lo) :: .t (.int .i64 A.hi) :: List.map PV.t ((C.drop (k + 1)).flatMap Span.cs) := by
    rw [← List.map_drop, h2]; rfl
  have e : ∀ i, (List.map PV.t (C.flatMap Span.cs))[k * 2 + i]? = (List.drop (k * 2) (List.map PV.t (C.flatMap Span.cs)))[i]? := fun i => by rw [List.getElem?_drop]
  refine ⟨by rw [List.length_map, h1, hn], by rw [h1, hn], h3, ?_, ?_, by omega, fun v0 v1 => ?_⟩
  · have := e 0; rw [h3] at this; exact this
  · have := e 1; rw [h3] at this; exact this
  · have := congrArg (List.map PV.t) (set_flat hk ⟨v0, v1⟩)
    rw [List.map_append, List.map_append, List.map_take, List.map_drop] at this
    exact this
theorem heard_at (x : Sx) (l : List Tr) {k : Nat} (h : k < 12) : [rowSp (sumsN x l 0), rowSp (sumsN x l 1), rowSp (sumsN x l 2), rowSp (sumsN x l 3), rowSp (sumsN x l 4), rowSp (sumsN x l 5), rowSp (sumsN x l 6), rowSp (sumsN x l 7), rowSp (sumsN x l 8), rowSp (sumsN x l 9), rowSp (sumsN x l 10), rowSp (sumsN x l 11)][k]? = some (rowSp (sumsN x l k)) := by
  rcases lt12 h with rfl | rfl | rfl | rfl | rfl | rfl | rfl | rfl | rfl | rfl | rfl | rfl <;> rfl
theorem trS_b {x : Sx} (h : GoodS x) {p : Tr} (hp : trB x p = true) : -600000 ≤ (trS x p).lo ∧ (trS x p).lo ≤ 600000 ∧ -600000 ≤ (trS x p).hi ∧ (trS x p).hi ≤ 600000 := by
  unfold trB at hp
  simp only [Bool.and_eq_true, inB_iff, decide_eq_true_eq] at hp
  obtain ⟨hr, hdiv, ht⟩ := hp
  obtain ⟨hr1, hr2⟩ := isRd_iff.1 hr
  have := shs_b h p.s.toNat
  have := last_b h
  unfold trS; simp only; omega
theorem sumsN_b {x : Sx} (h : GoodS x) {l : List Tr} (hl : l.all (trB x) = true) {k : Nat} {s : Span} (hs : s ∈ sumsN x l k) : -600000 ≤ s.lo ∧ s.lo ≤ 600000 ∧ -600000 ≤ s.hi ∧ s.hi ≤ 600000 := by
  unfold sumsN at hs
  obtain ⟨p, hp, rfl⟩ := List.mem_map.1 hs
  exact trS_b h (List.all_eq_true.1 hl p (List.mem_filter.1 hp).1)
end Go.Os
namespace Go.Proofs.Ytjmkccckohcfkaa
open Go.RowKit Go.Pm Go.Oc Go.Oh Go.Os
set_option maxRecDepth 100000
set_option linter.unusedVariables false
set_option maxHeartbeats 8000000

noncomputable def spLa : Pm.Spec := Spec.oneH 78 sxClone (((noSpec.one 72 sxIndices).one 95 sxSum).one 97 sxBoth)
@[go_sem] theorem spLa_p (f : FuncId) (xs : List TV) : spLa.p f xs = Pm.Spec.p (Spec.oneH 78 sxClone (((noSpec.one 72 sxIndices).one 95 sxSum).one 97 sxBoth)) f xs := rfl
@[go_sem] theorem spLa_h (f : FuncId) (ps : List PV) (hl : List PO) : spLa.h f ps hl = Pm.Spec.h (Spec.oneH 78 sxClone (((noSpec.one 72 sxIndices).one 95 sxSum).one 97 sxBoth)) f ps hl := rfl
@[go_sem] theorem spLa_fz (f : FuncId) : spLa.fz f = Pm.Spec.fz (Spec.oneH 78 sxClone (((noSpec.one 72 sxIndices).one 95 sxSum).one 97 sxBoth)) f := rfl
@[go_sem] theorem spLa_fr (f : FuncId) : spLa.fr f = Pm.Spec.fr (Spec.oneH 78 sxClone (((noSpec.one 72 sxIndices).one 95 sxSum).one 97 sxBoth)) f := rfl
@[go_sem] theorem spLa_mu (t : TypeId) : spLa.mu t = Pm.Spec.mu (Spec.oneH 78 sxClone (((noSpec.one 72 sxIndices).one 95 sxSum).one 97 sxBoth)) t := rfl
@[go_sem] theorem spLa_nf (t : TypeId) : spLa.nf t = Pm.Spec.nf (Spec.oneH 78 sxClone (((noSpec.one 72 sxIndices).one 95 sxSum).one 97 sxBoth)) t := rfl
theorem spLa_ok : SpecOk Try.prog spLa := Spec.oneH_ok sxClone_ok (Spec.one_ok sxBoth_ok (Spec.one_ok sxSum_ok (Spec.one_ok sxIndices_ok noSpec_ok)))
theorem sTablesI_c (x : Sx) {sT sS : TV} (hT : IsRow Span.cs sT x.tab) (hv : sxOk x = true) {l : List Tr} (hl : l.all (trB x) = true) (h8 : l.length ≤ 8) : Iter Try.prog 99 [] [.cptr (x.cs sT sS), .cptr (heardC x l)] (tabsV x l) := by
  have h := sxOk_iff.1 hv
  have hi := h.idx
  have hlen := h.len
  obtain ⟨f, rfl⟩ := good_T h hT
  refine iter_by Try.mixes spLa_ok (fn := Try.f99) Try.func99 rfl (by kernel_rfl) rfl (by show 3 ≤ _; decide) ?_
  intro y M stop hm1 hm2 hm3
  have hN : (tabsV x l).length = cntT (okI x l) (idxN x) := by simp [tabsV, cntT]
  rw [hN] at hm1 hm2
  obtain ⟨m, q1, q2, q3, q4, q5⟩ := stopAt (okI x l) hm1 hm2 hm3
  simp (decide := true) (maxSteps := 4000000) only [go_sem, Nat.reduceAdd, Nat.reduceSub, Nat.reduceMul, Nat.reduceDiv, Nat.reduceMod, Nat.reduceLT, Nat.reduceLeDiff, Nat.reduceEqDiff, Nat.reduceBEq, Nat.reduceBNe, Nat.reduceGT, Int.reduceAdd, Int.reduceSub, Int.reduceMul, Int.reduceNeg, Int.reduceLT, Int.reduceLE, Int.reduceEq, Int.reduceNe, Int.reduceBEq, Int.reduceBNe, Int.reduceToNat, Int.reduceGT, Int.reduceGE, ↓reduceIte, decide_true, decide_false, eq_self, Nat.mul_one, Nat.zero_mul, Nat.one_mul, Int.le_refl, Nat.le_refl, Int.cast_ofNat_Int, Try.f99, Sx.cs, heardC]
  have e0 : Sx.mk x.step x.tab ⟨x.idx.lo, x.idx.hi⟩ x.wrong x.shade = x := rfl
  obtain ⟨HC, hHC⟩ : ∃ HC, heardC x l = HC := ⟨_, rfl⟩
  have hHC' := hHC
  unfold heardC at hHC'
  rw [hHC']
  have hfl : (List.flatMap Span.cs x.tab).length = x.tab.length * 2 := flat_len Span.cs (n := 2) (fun _ => rfl) _
  refine pwpC_rangeS rfl 98 [] [.cptr (x.cs (.sl (x.tab.flatMap Span.cs) x.tab.length f) sS)] (idxV x) [(10, .t (.fn 98 [] [.cptr (x.cs (.sl (x.tab.flatMap Span.cs) x.tab.length f) sS)])), (3, .ptr 1 0), (1, .t (.cptr (x.cs (.sl (x.tab.flatMap Span.cs) x.tab.length f) sS))), (2, .t (.cptr HC))]
    (fun i => [.cnt (cntT (okI x l) i), .box [.yld y]]) 2 m stop (if stop then .ret else .normal) ?_ (by rfl) (by rfl) ?_ (sIndicesI_c x _ _ hi) ?_ ?_ ?_ ?_ (fun i => Nat.le_refl _) (fun i v him hx => ?_) ?_
  · simp (decide := true) (maxSteps := 4000000) only [go_sem, Nat.reduceAdd, Nat.reduceSub, Nat.reduceMul, Nat.reduceDiv, Nat.reduceMod, Nat.reduceLT, Nat.reduceLeDiff, Nat.reduceEqDiff, Nat.reduceBEq, Nat.reduceBNe, Nat.reduceGT, Int.reduceAdd, Int.reduceSub, Int.reduceMul, Int.reduceNeg, Int.reduceLT, Int.reduceLE, Int.reduceEq, Int.reduceNe, Int.reduceBEq, Int.reduceBNe, Int.reduceToNat, Int.reduceGT, Int.reduceGE, ↓reduceIte, decide_true, decide_false, eq_self, Nat.mul_one, Nat.zero_mul, Nat.one_mul, Int.le_refl, Nat.le_refl, Int.cast_ofNat_Int, Sx.cs, cntT, List.range_zero, List.filter_nil, List.length_nil]
  · simp (decide := true) (maxSteps := 4000000) only [go_sem, Nat.reduceAdd, Nat.reduceSub, Nat.reduceMul, Nat.reduceDiv, Nat.reduceMod, Nat.reduceLT, Nat.reduceLeDiff, Nat.reduceEqDiff, Nat.reduceBEq, Nat.reduceBNe, Nat.reduceGT, Int.reduceAdd, Int.reduceSub, Int.reduceMul, Int.reduceNeg, Int.reduceLT, Int.reduceLE, Int.reduceEq, Int.reduceNe, Int.reduceBEq, Int.reduceBNe, Int.reduceToNat, Int.reduceGT, Int.reduceGE, ↓reduceIte, decide_true, decide_false, eq_self, Nat.mul_one, Nat.zero_mul, Nat.one_mul, Int.le_refl, Nat.le_refl, Int.cast_ofNat_Int, Sx.cs]
  · intro v hv
    unfold idxV at hv
    obtain ⟨y, _, rfl⟩ := List.mem_map.1 hv
    rfl
  · simpa [idxV] using q1
  · intro e; subst e; exact ⟨by rw [q2 rfl]; simp [idxV], rfl⟩
  · intro e; subst e; exact ⟨q3 rfl, rfl⟩
  · have hiN : i < idxN x := by omega
    rw [idxV_at hiN] at hx
    cases hx
    have hib : -1800 ≤ x.idx.lo + (i : Int) ∧ x.idx.lo + (i : Int) ≤ 1800 := by unfold idxN at hiN; omega
    have hq5 := q5 i him
    have hok : okI x l i = okT x l (x.idx.lo + (i : Int)) := rfl
    have hat := tabsV_at (l := l) hiN
    have hcs := cntT_succ (okI x l) i
    obtain ⟨I, hI⟩ : ∃ I, x.idx.lo + (i : Int) = I := ⟨_, rfl⟩
    rw [hI] at hib hok hat ⊢
    obtain ⟨P, hP⟩ : ∃ P, okI x l i = P := ⟨_, rfl⟩
    rw [hP] at hq5 hok hat hcs
    have h12 : 1 ≤ x.tab.length ∧ x.tab.length ≤ 12 := by omega
    simp (decide := true) (maxSteps := 4000000) only [go_sem, Nat.reduceAdd, Nat.reduceSub, Nat.reduceMul, Nat.reduceDiv, Nat.reduceMod, Nat.reduceLT, Nat.reduceLeDiff, Nat.reduceEqDiff, Nat.reduceBEq, Nat.reduceBNe, Nat.reduceGT, Int.reduceAdd, Int.reduceSub, Int.reduceMul, Int.reduceNeg, Int.reduceLT, Int.reduceLE, Int.reduceEq, Int.reduceNe, Int.reduceBEq, Int.reduceBNe, Int.reduceToNat, Int.reduceGT, Int.reduceGE, ↓reduceIte, decide_true, decide_false, eq_self, Nat.mul_one, Nat.zero_mul, Nat.one_mul, Int.le_refl, Nat.le_refl, Int.cast_ofNat_Int, Sx.cs, unS_eq, h12, clV, clO]
    refine pwpC_loopU (A := { k : Nat // k ≤ x.tab.length ∧ ∀ j, j < k → (tabK x l I j).lo ≤ (tabK x l I j).hi }) [4, 5, 3, 1, 2, 17] (fun k => [(18, .t (.int .i64 k.1))]) (fun k => [(2, .grow 1 (((tabL x l I k.1).flatMap Span.cs).map .t) 24 2)]) (fun k => x.tab.length - k.1) ⟨0, by omega, fun j hj => by omega⟩ (by decide) (fun _ => by rfl) ?_ fun Q1 hQ1 ⟨k, hk, hkk⟩ I1 hI1 => ?_
    · simp (decide := true) (maxSteps := 4000000) only [go_sem, Nat.reduceAdd, Nat.reduceSub, Nat.reduceMul, Nat.reduceDiv, Nat.reduceMod, Nat.reduceLT, Nat.reduceLeDiff, Nat.reduceEqDiff, Nat.reduceBEq, Nat.reduceBNe, Nat.reduceGT, Int.reduceAdd, Int.reduceSub, Int.reduceMul, Int.reduceNeg, Int.reduceLT, Int.reduceLE, Int.reduceEq, Int.reduceNe, Int.reduceBEq, Int.reduceBNe, Int.reduceToNat, Int.reduceGT, Int.reduceGE, ↓reduceIte, decide_true, decide_false, eq_self, Nat.mul_one, Nat.zero_mul, Nat.one_mul, Int.le_refl, Nat.le_refl, Int.cast_ofNat_Int, tabL_zero]
    · by_cases hlt : (k : Int) < x.tab.length
      · have hkl : k < x.tab.length := by omega
        have hc1 : IntKind.i64.wrap (k + 1) = ((k + 1 : Nat) : Int) := by rw [wrap_in (by omega) (by omega)]; omega
        have hhe := heard_at x l (show k < 12 by omega)
        have hk0 : ¬ (k : Int) < 0 := by omega
        obtain ⟨vs, hvs⟩ : ∃ vs, [rowSp (sumsN x l 0), rowSp (sumsN x l 1), rowSp (sumsN x l 2), rowSp (sumsN x l 3), rowSp (sumsN x l 4), rowSp (sumsN x l 5), rowSp (sumsN x l 6), rowSp (sumsN x l 7), rowSp (sumsN x l 8), rowSp (sumsN x l 9), rowSp (sumsN x l 10), rowSp (sumsN x l 11)] = vs := ⟨_, rfl⟩
        rw [hvs] at hhe hHC'
        have hsb := fun s => sumsN_b h hl (k := k) (s := s)
        have hsl := sumsN_len x l k
        have hset0 := tabL_set0 x l I hkl
        have hsucc := tabL_succ x l I k
        have hLn := tabL_len x l I k
        have hLat := tabL_at x l I hkl
        have hTK : tabK x l I k = accS I (atS x.tab k) (sumsN x l k) := rfl
        have hca := h.tab _ (atS_mem hkl)
        obtain ⟨R, hR⟩ : ∃ R, rowSp (sumsN x l k) = R := ⟨_, rfl⟩
        have hrow := rowSp_row (sumsN x l k)
        rw [hR] at hhe hrow
        obtain ⟨S, hS⟩ : ∃ S, sumsN x l k = S := ⟨_, rfl⟩
        rw [hS] at hsb hsl hrow hTK
        rcases hrow with ⟨rfl, rfl⟩ | ⟨g, rfl⟩
        · simp (decide := true) (maxSteps := 4000000) only [go_sem, Nat.reduceAdd, Nat.reduceSub, Nat.reduceMul, Nat.reduceDiv, Nat.reduceMod, Nat.reduceLT, Nat.reduceLeDiff, Nat.reduceEqDiff, Nat.reduceBEq, Nat.reduceBNe, Nat.reduceGT, Int.reduceAdd, Int.reduceSub, Int.reduceMul, Int.reduceNeg, Int.reduceLT, Int.reduceLE, Int.reduceEq, Int.reduceNe, Int.reduceBEq, Int.reduceBNe, Int.reduceToNat, Int.reduceGT, Int.reduceGE, ↓reduceIte, decide_true, decide_false, eq_self, Nat.mul_one, Nat.zero_mul, Nat.one_mul, Int.le_refl, Nat.le_refl, Int.cast_ofNat_Int, hlt, ← hHC', hhe, Int.toNat_natCast]
          refine pwpC_loopU (A := Unit) [6, 18, 4, 5, 3, 1, 2, 17, 24, 25] (fun _ => [(26, .t (.int .i64 0))]) (fun _ => []) (fun _ => 0) () (by decide) (fun _ => by rfl) ?_ fun Q2 hQ2 _ I2 hI2 => ?_
          · simp (decide := true) (maxSteps := 4000000) only [go_sem, Nat.reduceAdd, Nat.reduceSub, Nat.reduceMul, Nat.reduceDiv, Nat.reduceMod, Nat.reduceLT, Nat.reduceLeDiff, Nat.reduceEqDiff, Nat.reduceBEq, Nat.reduceBNe, Nat.reduceGT, Int.reduceAdd, Int.reduceSub, Int.reduceMul, Int.reduceNeg, Int.reduceLT, Int.reduceLE, Int.reduceEq, Int.reduceNe, Int.reduceBEq, Int.reduceBNe, Int.reduceToNat, Int.reduceGT, Int.reduceGE, ↓reduceIte, decide_true, decide_false, eq_self, Nat.mul_one, Nat.zero_mul, Nat.one_mul, Int.le_refl, Nat.le_refl, Int.cast_ofNat_Int]
          · simp (decide := true) (maxSteps := 4000000) only [go_sem, Nat.reduceAdd, Nat.reduceSub, Nat.reduceMul, Nat.reduceDiv, Nat.reduceMod, Nat.reduceLT, Nat.reduceLeDiff, Nat.reduceEqDiff, Nat.reduceBEq, Nat.reduceBNe, Nat.reduceGT, Int.reduceAdd, Int.reduceSub, Int.reduceMul, Int.reduceNeg, Int.reduceLT, Int.reduceLE, Int.reduceEq, Int.reduceNe, Int.reduceBEq, Int.reduceBNe, Int.reduceToNat, Int.reduceGT, Int.reduceGE, ↓reduceIte, decide_true, decide_false, eq_self, Nat.mul_one, Nat.zero_mul, Nat.one_mul, Int.le_refl, Nat.le_refl, Int.cast_ofNat_Int]
            refine hQ2 _ _ ?_
            have hF := rowF hLn hLat
            have hgt : ¬ (atS x.tab k).lo > (atS x.tab k).hi := by omega
            have hTK' : tabK x l I k = atS x.tab k := hTK
            simp (decide := true) (maxSteps := 4000000) only [go_sem, Nat.reduceAdd, Nat.reduceSub, Nat.reduceMul, Nat.reduceDiv, Nat.reduceMod, Nat.reduceLT, Nat.reduceLeDiff, Nat.reduceEqDiff, Nat.reduceBEq, Nat.reduceBNe, Nat.reduceGT, Int.reduceAdd, Int.reduceSub, Int.reduceMul, Int.reduceNeg, Int.reduceLT, Int.reduceLE, Int.reduceEq, Int.reduceNe, Int.reduceBEq, Int.reduceBNe, Int.reduceToNat, Int.reduceGT, Int.reduceGE, ↓reduceIte, decide_true, decide_false, eq_self, Nat.mul_one, Nat.zero_mul, Nat.one_mul, Int.le_refl, Nat.le_refl, Int.cast_ofNat_Int, hlt, hF.len, hF.len', hF.drop, hF.lo, hF.hi, hF.b, hgt]
            refine hI1 _ ⟨k + 1, by omega, fun j hj => ?_⟩ (by simp only; omega) ?_
            · by_cases e : j = k
              · subst e; rw [hTK']; omega
              · exact hkk j (by omega)
            · simp (decide := true) (maxSteps := 4000000) only [go_sem, Nat.reduceAdd, Nat.reduceSub, Nat.reduceMul, Nat.reduceDiv, Nat.reduceMod, Nat.reduceLT, Nat.reduceLeDiff, Nat.reduceEqDiff, Nat.reduceBEq, Nat.reduceBNe, Nat.reduceGT, Int.reduceAdd, Int.reduceSub, Int.reduceMul, Int.reduceNeg, Int.reduceLT, Int.reduceLE, Int.reduceEq, Int.reduceNe, Int.reduceBEq, Int.reduceBNe, Int.reduceToNat, Int.reduceGT, Int.reduceGE, ↓reduceIte, decide_true, decide_false, eq_self, Nat.mul_one, Nat.zero_mul, Nat.one_mul, Int.le_refl, Nat.le_refl, Int.cast_ofNat_Int, hc1, hsucc, hTK', hset0]
              exact congrArg TV.cptr hHC'
        · simp (decide := true) (maxSteps := 4000000) only [go_sem, Nat.reduceAdd, Nat.reduceSub, Nat.reduceMul, Nat.reduceDiv, Nat.reduceMod, Nat.reduceLT, Nat.reduceLeDiff, Nat.reduceEqDiff, Nat.reduceBEq, Nat.reduceBNe, Nat.reduceGT, Int.reduceAdd, Int.reduceSub, Int.reduceMul, Int.reduceNeg, Int.reduceLT, Int.reduceLE, Int.reduceEq, Int.reduceNe, Int.reduceBEq, Int.reduceBNe, Int.reduceToNat, Int.reduceGT, Int.reduceGE, ↓reduceIte, decide_true, decide_false, eq_self, Nat.mul_one, Nat.zero_mul, Nat.one_mul, Int.le_refl, Nat.le_refl, Int.cast_ofNat_Int, hlt, ← hHC', hhe, Int.toNat_natCast]
          refine pwpC_loopU (A := { j : Nat // j ≤ S.length }) [6, 18, 4, 5, 3, 1, 2, 17, 24, 25] (fun j => [(26, .t (.int .i64 j.1))]) (fun j => [(2, .grow 1 ((((tabL x l I k).set k (accS I (atS x.tab k) (S.take j.1))).flatMap Span.cs).map .t) 24 2)]) (fun j => S.length - j.1) ⟨0, by omega⟩ (by decide) (fun _ => by rfl) ?_ fun Q2 hQ2 ⟨j, hj⟩ I2 hI2 => ?_
          · simp (decide := true) (maxSteps := 4000000) only [go_sem, Nat.reduceAdd, Nat.reduceSub, Nat.reduceMul, Nat.reduceDiv, Nat.reduceMod, Nat.reduceLT, Nat.reduceLeDiff, Nat.reduceEqDiff, Nat.reduceBEq, Nat.reduceBNe, Nat.reduceGT, Int.reduceAdd, Int.reduceSub, Int.reduceMul, Int.reduceNeg, Int.reduceLT, Int.reduceLE, Int.reduceEq, Int.reduceNe, Int.reduceBEq, Int.reduceBNe, Int.reduceToNat, Int.reduceGT, Int.reduceGE, ↓reduceIte, decide_true, decide_false, eq_self, Nat.mul_one, Nat.zero_mul, Nat.one_mul, Int.le_refl, Nat.le_refl, Int.cast_ofNat_Int, accS, List.take_zero, hset0]
          · by_cases hjl : (j : Int) < S.length
            · obtain ⟨s, hs⟩ := get_lt hjl
              have hd := flat_at Span.cs (n := 2) (fun _ => rfl) hs
              have hc2 : IntKind.i64.wrap (j + 1) = ((j + 1 : Nat) : Int) := by rw [wrap_in (by omega) (by omega)]; omega
              have hac := accS_take (i := I) (c := atS x.tab k) hs
              obtain ⟨A, hA⟩ : ∃ A, accS I (atS x.tab k) (S.take j) = A := ⟨_, rfl⟩
              rw [hA] at hac
              have hF := rowF (C := (tabL x l I k).set k A) (A := A) (by rw [List.length_set, hLn]) (by rw [List.getElem?_set_self (by omega)])
              have hsbs := hsb s (List.mem_of_getElem? hs)
              have w3 : IntKind.i64.wrap (0 - I) = -I := by rw [wrap_in (by omega) (by omega)]; omega
              have hbd : [s, ⟨-I, -I⟩].all bdB = true := by
                have b1 : bdB s = true := bdB_iff.2 (by omega)
                have b2 : bdB ⟨-I, -I⟩ = true := bdB_iff.2 (by simp only; omega)
                simp [b1, b2]
              have hsm : sumL [s, ⟨-I, -I⟩] = ⟨s.lo - I, s.hi - I⟩ := by simp only [sumL, addS, List.foldl_cons, List.foldl_nil]; congr 1 <;> omega
              have hun : unS [.int .i64 s.lo, .int .i64 s.hi, .int .i64 (-I), .int .i64 (-I)] = some [s, ⟨-I, -I⟩] := unS_eq [s, ⟨-I, -I⟩]
              simp (decide := true) (maxSteps := 4000000) only [go_sem, Nat.reduceAdd, Nat.reduceSub, Nat.reduceMul, Nat.reduceDiv, Nat.reduceMod, Nat.reduceLT, Nat.reduceLeDiff, Nat.reduceEqDiff, Nat.reduceBEq, Nat.reduceBNe, Nat.reduceGT, Int.reduceAdd, Int.reduceSub, Int.reduceMul, Int.reduceNeg, Int.reduceLT, Int.reduceLE, Int.reduceEq, Int.reduceNe, Int.reduceBEq, Int.reduceBNe, Int.reduceToNat, Int.reduceGT, Int.reduceGE, ↓reduceIte, decide_true, decide_false, eq_self, Nat.mul_one, Nat.zero_mul, Nat.one_mul, Int.le_refl, Nat.le_refl, Int.cast_ofNat_Int, hjl, hd, Span.cs, hlt, hA, hF.len, hF.len', hF.drop, hF.lo, hF.hi, hF.b, hF.set, w3, hbd, hsm, hun, Span.t]
              refine hI2 _ ⟨j + 1, by omega⟩ (by simp only; omega) ?_
              simp (decide := true) (maxSteps := 4000000) only [go_sem, Nat.reduceAdd, Nat.reduceSub, Nat.reduceMul, Nat.reduceDiv, Nat.reduceMod, Nat.reduceLT, Nat.reduceLeDiff, Nat.reduceEqDiff, Nat.reduceBEq, Nat.reduceBNe, Nat.reduceGT, Int.reduceAdd, Int.reduceSub, Int.reduceMul, Int.reduceNeg, Int.reduceLT, Int.reduceLE, Int.reduceEq, Int.reduceNe, Int.reduceBEq, Int.reduceBNe, Int.reduceToNat, Int.reduceGT, Int.reduceGE, ↓reduceIte, decide_true, decide_false, eq_self, Nat.mul_one, Nat.zero_mul, Nat.one_mul, Int.le_refl, Nat.le_refl, Int.cast_ofNat_Int, hc2, hac, List.set_set]
              done
            · have hje : j = S.length := by omega
              subst hje
              simp (decide := true) (maxSteps := 4000000) only [go_sem, Nat.reduceAdd, Nat.reduceSub, Nat.reduceMul, Nat.reduceDiv, Nat.reduceMod, Nat.reduceLT, Nat.reduceLeDiff, Nat.reduceEqDiff, Nat.reduceBEq, Nat.reduceBNe, Nat.reduceGT, Int.reduceAdd, Int.reduceSub, Int.reduceMul, Int.reduceNeg, Int.reduceLT, Int.reduceLE, Int.reduceEq, Int.reduceNe, Int.reduceBEq, Int.reduceBNe, Int.reduceToNat, Int.reduceGT, Int.reduceGE, ↓reduceIte, decide_true, decide_false, eq_self, Nat.mul_one, Nat.zero_mul, Nat.one_mul, Int.le_refl, Nat.le_refl, Int.cast_ofNat_Int, hjl]
              refine hQ2 _ _ ?_
              rw [List.take_length, ← hTK]
              have hF := rowF (C := (tabL x l I k).set k (tabK x l I k)) (A := tabK x l I k) (by rw [List.length_set, hLn]) (by rw [List.getElem?_set_self (by omega)])
              rw [← hsucc] at hF ⊢
              by_cases hgt : (tabK x l I k).lo > (tabK x l I k).hi
              · have hPf : P = false := by
                  rw [hok]
                  cases ht : okT x l I with
                  | false => rfl
                  | true =>
                    unfold okT at ht
                    have := List.all_eq_true.1 ht k (List.mem_range.2 hkl)
                    simp at this; omega
                have hq := hq5.2 hPf
                rw [hPf] at hcs
                simp (decide := true) (maxSteps := 4000000) only [go_sem, Nat.reduceAdd, Nat.reduceSub, Nat.reduceMul, Nat.reduceDiv, Nat.reduceMod, Nat.reduceLT, Nat.reduceLeDiff, Nat.reduceEqDiff, Nat.reduceBEq, Nat.reduceBNe, Nat.reduceGT, Int.reduceAdd, Int.reduceSub, Int.reduceMul, Int.reduceNeg, Int.reduceLT, Int.reduceLE, Int.reduceEq, Int.reduceNe, Int.reduceBEq, Int.reduceBNe, Int.reduceToNat, Int.reduceGT, Int.reduceGE, ↓reduceIte, decide_true, decide_false, eq_self, Nat.mul_one, Nat.zero_mul, Nat.one_mul, Int.le_refl, Nat.le_refl, Int.cast_ofNat_Int, hlt, hF.len, hF.len', hF.drop, hF.lo, hF.hi, hF.b, hgt]
                refine hQ1 _ _ ?_
                simp (decide := true) (maxSteps := 4000000) only [go_sem, Nat.reduceAdd, Nat.reduceSub, Nat.reduceMul, Nat.reduceDiv, Nat.reduceMod, Nat.reduceLT, Nat.reduceLeDiff, Nat.reduceEqDiff, Nat.reduceBEq, Nat.reduceBNe, Nat.reduceGT, Int.reduceAdd, Int.reduceSub, Int.reduceMul, Int.reduceNeg, Int.reduceLT, Int.reduceLE, Int.reduceEq, Int.reduceNe, Int.reduceBEq, Int.reduceBNe, Int.reduceToNat, Int.reduceGT, Int.reduceGE, ↓reduceIte, decide_true, decide_false, eq_self, Nat.mul_one, Nat.zero_mul, Nat.one_mul, Int.le_refl, Nat.le_refl, Int.cast_ofNat_Int, hq, hcs]
                done
              · simp (decide := true) (maxSteps := 4000000) only [go_sem, Nat.reduceAdd, Nat.reduceSub, Nat.reduceMul, Nat.reduceDiv, Nat.reduceMod, Nat.reduceLT, Nat.reduceLeDiff, Nat.reduceEqDiff, Nat.reduceBEq, Nat.reduceBNe, Nat.reduceGT, Int.reduceAdd, Int.reduceSub, Int.reduceMul, Int.reduceNeg, Int.reduceLT, Int.reduceLE, Int.reduceEq, Int.reduceNe, Int.reduceBEq, Int.reduceBNe, Int.reduceToNat, Int.reduceGT, Int.reduceGE, ↓reduceIte, decide_true, decide_false, eq_self, Nat.mul_one, Nat.zero_mul, Nat.one_mul, Int.le_refl, Nat.le_refl, Int.cast_ofNat_Int, hlt, hF.len, hF.len', hF.drop, hF.lo, hF.hi, hF.b, hgt]
                refine hI1 _ ⟨k + 1, by omega, fun j hj => ?_⟩ (by simp only; omega) ?_
                · by_cases e : j = k
                  · subst e; omega
                  · exact hkk j (by omega)
                · simp (decide := true) (maxSteps := 4000000) only [go_sem, Nat.reduceAdd, Nat.reduceSub, Nat.reduceMul, Nat.reduceDiv, Nat.reduceMod, Nat.reduceLT, Nat.reduceLeDiff, Nat.reduceEqDiff, Nat.reduceBEq, Nat.reduceBNe, Nat.reduceGT, Int.reduceAdd, Int.reduceSub, Int.reduceMul, Int.reduceNeg, Int.reduceLT, Int.reduceLE, Int.reduceEq, Int.reduceNe, Int.reduceBEq, Int.reduceBNe, Int.reduceToNat, Int.reduceGT, Int.reduceGE, ↓reduceIte, decide_true, decide_false, eq_self, Nat.mul_one, Nat.zero_mul, Nat.one_mul, Int.le_refl, Nat.le_refl, Int.cast_ofNat_Int, hc1]
                  exact congrArg TV.cptr hHC'
      · have hke : k = x.tab.length := by omega
        subst hke
        have hPt : P = true := by
          rw [hok]
          unfold okT
          exact List.all_eq_true.2 fun j hj => decide_eq_true (hkk j (List.mem_range.1 hj))
        obtain ⟨hq1, hq2⟩ := hq5.1 hPt
        have hat' := hat hPt
        rw [hPt] at hcs
        have hfr : (tabR x l I).length = x.tab.length := tabR_len _ _ _
        have hflr : (List.flatMap Span.cs (tabR x l I)).length = x.tab.length * 2 := by rw [flat_len Span.cs (n := 2) (fun _ => rfl), hfr]
        simp (decide := true) (maxSteps := 4000000) only [go_sem, Nat.reduceAdd, Nat.reduceSub, Nat.reduceMul, Nat.reduceDiv, Nat.reduceMod, Nat.reduceLT, Nat.reduceLeDiff, Nat.reduceEqDiff, Nat.reduceBEq, Nat.reduceBNe, Nat.reduceGT, Int.reduceAdd, Int.reduceSub, Int.reduceMul, Int.reduceNeg, Int.reduceLT, Int.reduceLE, Int.reduceEq, Int.reduceNe, Int.reduceBEq, Int.reduceBNe, Int.reduceToNat, Int.reduceGT, Int.reduceGE, ↓reduceIte, decide_true, decide_false, eq_self, Nat.mul_one, Nat.zero_mul, Nat.one_mul, Int.le_refl, Nat.le_refl, Int.cast_ofNat_Int, hlt]
        refine hQ1 _ _ ?_
        have htk : List.take (x.tab.length * 2) ((tabR x l I).flatMap Span.cs) = (tabR x l I).flatMap Span.cs := List.take_of_length_le (by omega)
        have hlm : (List.map PV.t ((tabR x l I).flatMap Span.cs)).length = x.tab.length * 2 := by rw [List.length_map, hflr]
        have hn0 : ¬ x.tab.length = 0 := by omega
        simp (decide := true) (maxSteps := 4000000) only [go_sem, Nat.reduceAdd, Nat.reduceSub, Nat.reduceMul, Nat.reduceDiv, Nat.reduceMod, Nat.reduceLT, Nat.reduceLeDiff, Nat.reduceEqDiff, Nat.reduceBEq, Nat.reduceBNe, Nat.reduceGT, Int.reduceAdd, Int.reduceSub, Int.reduceMul, Int.reduceNeg, Int.reduceLT, Int.reduceLE, Int.reduceEq, Int.reduceNe, Int.reduceBEq, Int.reduceBNe, Int.reduceToNat, Int.reduceGT, Int.reduceGE, ↓reduceIte, decide_true, decide_false, eq_self, Nat.mul_one, Nat.zero_mul, Nat.one_mul, Int.le_refl, Nat.le_refl, Int.cast_ofNat_Int, tabL_end, freezeW, freezeO, closedG, seenF, wr, upo, htk, hflr, hlm, hat', hq1, hq2, hn0, Nat.zero_add, List.drop_zero]
        simp only [if_true] at hcs
        by_cases hst : stop = true ∧ i + 1 = m
        · simp only [if_pos hst, if_pos hst.1, decide_eq_true hst]
          simp (decide := true) (maxSteps := 4000000) only [go_sem, Nat.reduceAdd, Nat.reduceSub, Nat.reduceMul, Nat.reduceDiv, Nat.reduceMod, Nat.reduceLT, Nat.reduceLeDiff, Nat.reduceEqDiff, Nat.reduceBEq, Nat.reduceBNe, Nat.reduceGT, Int.reduceAdd, Int.reduceSub, Int.reduceMul, Int.reduceNeg, Int.reduceLT, Int.reduceLE, Int.reduceEq, Int.reduceNe, Int.reduceBEq, Int.reduceBNe, Int.reduceToNat, Int.reduceGT, Int.reduceGE, ↓reduceIte, decide_true, decide_false, eq_self, Nat.mul_one, Nat.zero_mul, Nat.one_mul, Int.le_refl, Nat.le_refl, Int.cast_ofNat_Int, hcs]
          done
        · simp only [if_neg hst, decide_eq_false hst]
          simp (decide := true) (maxSteps := 4000000) only [go_sem, Nat.reduceAdd, Nat.reduceSub, Nat.reduceMul, Nat.reduceDiv, Nat.reduceMod, Nat.reduceLT, Nat.reduceLeDiff, Nat.reduceEqDiff, Nat.reduceBEq, Nat.reduceBNe, Nat.reduceGT, Int.reduceAdd, Int.reduceSub, Int.reduceMul, Int.reduceNeg, Int.reduceLT, Int.reduceLE, Int.reduceEq, Int.reduceNe, Int.reduceBEq, Int.reduceBNe, Int.reduceToNat, Int.reduceGT, Int.reduceGE, ↓reduceIte, decide_true, decide_false, eq_self, Nat.mul_one, Nat.zero_mul, Nat.one_mul, Int.le_refl, Nat.le_refl, Int.cast_ofNat_Int, hcs]
          done
  · simp (decide := true) (maxSteps := 4000000) only [go_sem, Nat.reduceAdd, Nat.reduceSub, Nat.reduceMul, Nat.reduceDiv, Nat.reduceMod, Nat.reduceLT, Nat.reduceLeDiff, Nat.reduceEqDiff, Nat.reduceBEq, Nat.reduceBNe, Nat.reduceGT, Int.reduceAdd, Int.reduceSub, Int.reduceMul, Int.reduceNeg, Int.reduceLT, Int.reduceLE, Int.reduceEq, Int.reduceNe, Int.reduceBEq, Int.reduceBNe, Int.reduceToNat, Int.reduceGT, Int.reduceGE, ↓reduceIte, decide_true, decide_false, eq_self, Nat.mul_one, Nat.zero_mul, Nat.one_mul, Int.le_refl, Nat.le_refl, Int.cast_ofNat_Int, q4]
    cases stop <;> simp (decide := true) (maxSteps := 4000000) only [go_sem, Nat.reduceAdd, Nat.reduceSub, Nat.reduceMul, Nat.reduceDiv, Nat.reduceMod, Nat.reduceLT, Nat.reduceLeDiff, Nat.reduceEqDiff, Nat.reduceBEq, Nat.reduceBNe, Nat.reduceGT, Int.reduceAdd, Int.reduceSub, Int.reduceMul, Int.reduceNeg, Int.reduceLT, Int.reduceLE, Int.reduceEq, Int.reduceNe, Int.reduceBEq, Int.reduceBNe, Int.reduceToNat, Int.reduceGT, Int.reduceGE, ↓reduceIte, decide_true, decide_false, eq_self, Nat.mul_one, Nat.zero_mul, Nat.one_mul, Int.le_refl, Nat.le_refl, Int.cast_ofNat_Int]
end Go.Proofs.Ytjmkccckohcfkaa

/- Part Sm. -/
namespace Go.Os
open Go Go.Pm Go.Oc Go.Oh
def noAt (x : Sx) (l : List Tr) : Bool := !(List.range 12).any (atN x l)
theorem noAt_is (x : Sx) (l : List Tr) : (!atN x l 0 && (!atN x l 1 && (!atN x l 2 && (!atN x l 3 && (!atN x l 4 && (!atN x l 5 && (!atN x l 6 && (!atN x l 7 && (!atN x l 8 && (!atN x l 9 && (!atN x l 10 && !atN x l 11))))))))))) = noAt x l := by
  unfold noAt; rw [show List.range 12 = [0, 1, 2, 3, 4, 5, 6, 7, 8, 9, 10, 11] from rfl]; simp [List.any_cons]
def canB (x : Sx) (l : List Tr) : Bool := noAt x l || decide (0 < cntT (okI x l) (idxN x))
theorem tabsV_len (x : Sx) (l : List Tr) : (tabsV x l).length = cntT (okI x l) (idxN x) := by simp [tabsV, cntT]
theorem heardT_is (x : Sx) (l : List Tr) : ∃ vs, heardT x l = .agg [.bool (atN x l 0), .bool (atN x l 1), .bool (atN x l 2), .bool (atN x l 3), .bool (atN x l 4), .bool (atN x l 5), .bool (atN x l 6), .bool (atN x l 7), .bool (atN x l 8), .bool (atN x l 9), .bool (atN x l 10), .bool (atN x l 11), .imap 119 vs] ∧
    heardC x l = [.bool (atN x l 0), .bool (atN x l 1), .bool (atN x l 2), .bool (atN x l 3), .bool (atN x l 4), .bool (atN x l 5), .bool (atN x l 6), .bool (atN x l 7), .bool (atN x l 8), .bool (atN x l 9), .bool (atN x l 10), .bool (atN x l 11), .imap 119 vs] := ⟨_, rfl, rfl⟩
end Go.Os
namespace Go.Proofs.Ytjmkccckohcfkaa
open Go.RowKit Go.Pm Go.Oc Go.Oh Go.Os
set_option maxRecDepth 100000
set_option linter.unusedVariables false
set_option maxHeartbeats 8000000

noncomputable def sxHeard : List TV → Option TV
  | [.agg [.int .i64 a0, sT, .int .i64 a1, .int .i64 a2, .int .i64 a3, sS], s] => match rowL unS sT, rowL unS sS, rowL unTr s with
    | some tab, some shade, some l => if sxOk (⟨a0, tab, ⟨a1, a2⟩, a3, shade⟩ : Sx) = true ∧ l.all (trB (⟨a0, tab, ⟨a1, a2⟩, a3, shade⟩ : Sx)) = true ∧ l.length ≤ 8 then some (heardT (⟨a0, tab, ⟨a1, a2⟩, a3, shade⟩ : Sx) l) else none
    | _, _, _ => none
  | _ => none
theorem sxHeard_ok : ∀ xs r, sxHeard xs = some r → PCalls Try.prog 77 xs r := by
  intro xs r h
  unfold sxHeard at h
  split at h
  · split at h
    · rename_i tab shade l hT hS hl
      have hT := rowL_some (un := unS) unS_nil (@unS_some) hT
      have hS := rowL_some (un := unS) unS_nil (@unS_some) hS
      have hl := rowL_some (un := unTr) unTr_nil (@unTr_some) hl
      split at h
      · rename_i hc; cases h; exact sHeard_c ⟨_, tab, ⟨_, _⟩, _, shade⟩ hT hS hc.1 hl hc.2.1 hc.2.2
      · cases h
    · cases h
  · cases h
attribute [go_sem] sxHeard
noncomputable def sxOpened : List TV → Option TV
  | [.agg [.int .i64 a0, sT, .int .i64 a1, .int .i64 a2, .int .i64 a3, sS], s] => match rowL unS sT, rowL unS sS, rowL unTr s with
    | some tab, some shade, some l => if tab.length ≤ 9000000000000 ∧ shade.length ≤ 9000000000000 ∧ l.length ≤ 9000000000000 then some (.tup [openedT (⟨a0, tab, ⟨a1, a2⟩, a3, shade⟩ : Sx) sT sS, .int .i64 (openedE (⟨a0, tab, ⟨a1, a2⟩, a3, shade⟩ : Sx) l)]) else none
    | _, _, _ => none
  | _ => none
theorem sxOpened_ok : ∀ xs r, sxOpened xs = some r → PCalls Try.prog 75 xs r := by
  intro xs r h
  unfold sxOpened at h
  split at h
  · split at h
    · rename_i tab shade l hT hS hl
      have hT := rowL_some (un := unS) unS_nil (@unS_some) hT
      have hS := rowL_some (un := unS) unS_nil (@unS_some) hS
      have hl := rowL_some (un := unTr) unTr_nil (@unTr_some) hl
      split at h
      · rename_i hc; cases h; exact sOpened_c ⟨_, tab, ⟨_, _⟩, _, shade⟩ hT hS hc.1 hc.2.1 hl hc.2.2
      · cases h
    · cases h
  · cases h
attribute [go_sem] sxOpened
noncomputable def spMa : Pm.Spec := ((noSpec.one 77 sxHeard).one 76 sxTables)
@[go_sem] theorem spMa_p (f : FuncId) (xs : List TV) : spMa.p f xs = Pm.Spec.p (((noSpec.one 77 sxHeard).one 76 sxTables)) f xs := rfl
@[go_sem] theorem spMa_h (f : FuncId) (ps : List PV) (hl : List PO) : spMa.h f ps hl = Pm.Spec.h (((noSpec.one 77 sxHeard).one 76 sxTables)) f ps hl := rfl
@[go_sem] theorem spMa_fz (f : FuncId) : spMa.fz f = Pm.Spec.fz (((noSpec.one 77 sxHeard).one 76 sxTables)) f := rfl
@[go_sem] theorem spMa_fr (f : FuncId) : spMa.fr f = Pm.Spec.fr (((noSpec.one 77 sxHeard).one 76 sxTables)) f := rfl
@[go_sem] theorem spMa_mu (t : TypeId) : spMa.mu t = Pm.Spec.mu (((noSpec.one 77 sxHeard).one 76 sxTables)) t := rfl
@[go_sem] theorem spMa_nf (t : TypeId) : spMa.nf t = Pm.Spec.nf (((noSpec.one 77 sxHeard).one 76 sxTables)) t := rfl
theorem spMa_ok : SpecOk Try.prog spMa := Spec.one_ok sxTables_ok (Spec.one_ok sxHeard_ok noSpec_ok)
theorem sCan_c (x : Sx) {sT sS : TV} (hT : IsRow Span.cs sT x.tab) (hS : IsRow Span.cs sS x.shade) (hv : sxOk x = true) {l : List Tr} {s : TV} (hs : IsRow Tr.cs s l) (hl : l.all (trB x) = true) (h8 : l.length ≤ 8) : PCalls Try.prog 81 [x.t sT sS, s] (.bool (canB x l)) := by
  have h := sxOk_iff.1 hv
  have hi := h.idx
  have rS := rowS_is hS
  have rs := rowTr_is hs
  have e0 : Sx.mk x.step x.tab ⟨x.idx.lo, x.idx.hi⟩ x.wrong x.shade = x := rfl
  have hIt := sTablesI_c x (sS := sS) hT hv hl h8
  obtain ⟨f, rfl⟩ := good_T h hT
  have rT : rowL unS (.sl (x.tab.flatMap Span.cs) x.tab.length f) = some x.tab := rowS_is hT
  unfold rowL at rS rs
  simp only [unS_nil] at rS
  simp only [unTr_nil] at rs
  obtain ⟨vs, hh, hh'⟩ := heardT_is x l
  rw [hh'] at hIt
  refine pcalls_by Try.mixes spMa_ok (fn := Try.f81) Try.func81 rfl (by kernel_rfl) (by show 2 ≤ _; decide) ?_
  simp (decide := true) (maxSteps := 4000000) only [go_sem, Nat.reduceAdd, Nat.reduceSub, Nat.reduceMul, Nat.reduceDiv, Nat.reduceMod, Nat.reduceLT, Nat.reduceLeDiff, Nat.reduceEqDiff, Nat.reduceBEq, Nat.reduceBNe, Nat.reduceGT, Int.reduceAdd, Int.reduceSub, Int.reduceMul, Int.reduceNeg, Int.reduceLT, Int.reduceLE, Int.reduceEq, Int.reduceNe, Int.reduceBEq, Int.reduceBNe, Int.reduceToNat, Int.reduceGT, Int.reduceGE, ↓reduceIte, decide_true, decide_false, eq_self, Nat.mul_one, Nat.zero_mul, Nat.one_mul, Int.le_refl, Nat.le_refl, Int.cast_ofNat_Int, Try.f81, Sx.t, Sx.cs, rS, rs, rT, unS_eq, e0, hv, hl, h8, hh]
  have hno := noAt_is x l
  obtain ⟨N, hN⟩ : ∃ N, noAt x l = N := ⟨_, rfl⟩
  have hcb : canB x l = (N || decide (0 < cntT (okI x l) (idxN x))) := by unfold canB; rw [hN]
  rw [hN] at hno
  rw [hno]
  cases N with
  | true => simp (decide := true) (maxSteps := 4000000) only [go_sem, Nat.reduceAdd, Nat.reduceSub, Nat.reduceMul, Nat.reduceDiv, Nat.reduceMod, Nat.reduceLT, Nat.reduceLeDiff, Nat.reduceEqDiff, Nat.reduceBEq, Nat.reduceBNe, Nat.reduceGT, Int.reduceAdd, Int.reduceSub, Int.reduceMul, Int.reduceNeg, Int.reduceLT, Int.reduceLE, Int.reduceEq, Int.reduceNe, Int.reduceBEq, Int.reduceBNe, Int.reduceToNat, Int.reduceGT, Int.reduceGE, ↓reduceIte, decide_true, decide_false, eq_self, Nat.mul_one, Nat.zero_mul, Nat.one_mul, Int.le_refl, Nat.le_refl, Int.cast_ofNat_Int, hcb, Bool.true_or]
  | false =>
    simp (decide := true) (maxSteps := 4000000) only [go_sem, Nat.reduceAdd, Nat.reduceSub, Nat.reduceMul, Nat.reduceDiv, Nat.reduceMod, Nat.reduceLT, Nat.reduceLeDiff, Nat.reduceEqDiff, Nat.reduceBEq, Nat.reduceBNe, Nat.reduceGT, Int.reduceAdd, Int.reduceSub, Int.reduceMul, Int.reduceNeg, Int.reduceLT, Int.reduceLE, Int.reduceEq, Int.reduceNe, Int.reduceBEq, Int.reduceBNe, Int.reduceToNat, Int.reduceGT, Int.reduceGE, ↓reduceIte, decide_true, decide_false, eq_self, Nat.mul_one, Nat.zero_mul, Nat.one_mul, Int.le_refl, Nat.le_refl, Int.cast_ofNat_Int]
    have hlen := tabsV_len x l
    obtain ⟨HC, hHC⟩ : ∃ HC, heardC x l = HC := ⟨_, rfl⟩
    rw [← hh', hHC] at hIt
    have hHC' := hh'.symm.trans hHC
    have hl2 : ∀ v ∈ tabsV x l, v.length = 2 := fun v hv => by
      unfold tabsV at hv
      obtain ⟨y, _, rfl⟩ := List.mem_map.1 hv
      rfl
    by_cases hc : 0 < cntT (okI x l) (idxN x)
    · refine pwpC_rangeS rfl 99 [] [.cptr (x.cs (.sl (x.tab.flatMap Span.cs) x.tab.length f) sS), .cptr HC] (tabsV x l) [(15, .t (.fn 99 [] [.cptr (x.cs (.sl (x.tab.flatMap Span.cs) x.tab.length f) sS), .cptr HC])), (4, .ptr 1 0)]
        (fun i => [.box ((x.cs (.sl (x.tab.flatMap Span.cs) x.tab.length f) sS).map .t), .box [.t (.bool (decide (0 < i)))], .box (HC.map .t)]) 3 1 true .ret ?_ (by rfl) (by rfl) ?_ hIt hl2 (by omega) (fun h => (by cases h)) (fun _ => ⟨by omega, rfl⟩) (fun i => Nat.le_refl _) (fun i v him hx => ?_) ?_
      · simp (decide := true) (maxSteps := 4000000) only [go_sem, Nat.reduceAdd, Nat.reduceSub, Nat.reduceMul, Nat.reduceDiv, Nat.reduceMod, Nat.reduceLT, Nat.reduceLeDiff, Nat.reduceEqDiff, Nat.reduceBEq, Nat.reduceBNe, Nat.reduceGT, Int.reduceAdd, Int.reduceSub, Int.reduceMul, Int.reduceNeg, Int.reduceLT, Int.reduceLE, Int.reduceEq, Int.reduceNe, Int.reduceBEq, Int.reduceBNe, Int.reduceToNat, Int.reduceGT, Int.reduceGE, ↓reduceIte, decide_true, decide_false, eq_self, Nat.mul_one, Nat.zero_mul, Nat.one_mul, Int.le_refl, Nat.le_refl, Int.cast_ofNat_Int, Sx.cs, ← hHC', List.map_cons, List.map_nil]
      · simp (decide := true) (maxSteps := 4000000) only [go_sem, Nat.reduceAdd, Nat.reduceSub, Nat.reduceMul, Nat.reduceDiv, Nat.reduceMod, Nat.reduceLT, Nat.reduceLeDiff, Nat.reduceEqDiff, Nat.reduceBEq, Nat.reduceBNe, Nat.reduceGT, Int.reduceAdd, Int.reduceSub, Int.reduceMul, Int.reduceNeg, Int.reduceLT, Int.reduceLE, Int.reduceEq, Int.reduceNe, Int.reduceBEq, Int.reduceBNe, Int.reduceToNat, Int.reduceGT, Int.reduceGE, ↓reduceIte, decide_true, decide_false, eq_self, Nat.mul_one, Nat.zero_mul, Nat.one_mul, Int.le_refl, Nat.le_refl, Int.cast_ofNat_Int, Sx.cs]
      · have : i = 0 := by omega
        subst this
        have hm := List.mem_of_getElem? hx
        unfold tabsV at hm
        obtain ⟨y, _, rfl⟩ := List.mem_map.1 hm
        have c1 : (true = true ∧ 0 + 1 = 1) := ⟨rfl, rfl⟩
        simp (decide := true) (maxSteps := 4000000) only [go_sem, Nat.reduceAdd, Nat.reduceSub, Nat.reduceMul, Nat.reduceDiv, Nat.reduceMod, Nat.reduceLT, Nat.reduceLeDiff, Nat.reduceEqDiff, Nat.reduceBEq, Nat.reduceBNe, Nat.reduceGT, Int.reduceAdd, Int.reduceSub, Int.reduceMul, Int.reduceNeg, Int.reduceLT, Int.reduceLE, Int.reduceEq, Int.reduceNe, Int.reduceBEq, Int.reduceBNe, Int.reduceToNat, Int.reduceGT, Int.reduceGE, ↓reduceIte, decide_true, decide_false, eq_self, Nat.mul_one, Nat.zero_mul, Nat.one_mul, Int.le_refl, Nat.le_refl, Int.cast_ofNat_Int, Sx.cs, c1]
      · simp (decide := true) (maxSteps := 4000000) only [go_sem, Nat.reduceAdd, Nat.reduceSub, Nat.reduceMul, Nat.reduceDiv, Nat.reduceMod, Nat.reduceLT, Nat.reduceLeDiff, Nat.reduceEqDiff, Nat.reduceBEq, Nat.reduceBNe, Nat.reduceGT, Int.reduceAdd, Int.reduceSub, Int.reduceMul, Int.reduceNeg, Int.reduceLT, Int.reduceLE, Int.reduceEq, Int.reduceNe, Int.reduceBEq, Int.reduceBNe, Int.reduceToNat, Int.reduceGT, Int.reduceGE, ↓reduceIte, decide_true, decide_false, eq_self, Nat.mul_one, Nat.zero_mul, Nat.one_mul, Int.le_refl, Nat.le_refl, Int.cast_ofNat_Int, hcb, hc, Bool.false_or, decide_true]
    · have hnil : tabsV x l = [] := List.length_eq_zero_iff.1 (by omega)
      have hlen0 : (tabsV x l).length = 0 := by rw [hnil]; rfl
      refine pwpC_range rfl 99 [] [.cptr (x.cs (.sl (x.tab.flatMap Span.cs) x.tab.length f) sS), .cptr HC] (tabsV x l) [(15, .t (.fn 99 [] [.cptr (x.cs (.sl (x.tab.flatMap Span.cs) x.tab.length f) sS), .cptr HC])), (4, .ptr 1 0)]
        (fun i => [.box ((x.cs (.sl (x.tab.flatMap Span.cs) x.tab.length f) sS).map .t), .box [.t (.bool false)], .box (HC.map .t)]) 3 ?_ (by rfl) (by rfl) ?_ hIt hl2 (fun i => Nat.le_refl _) (fun i => rfl) (fun i v hx => ?_) ?_
      · simp (decide := true) (maxSteps := 4000000) only [go_sem, Nat.reduceAdd, Nat.reduceSub, Nat.reduceMul, Nat.reduceDiv, Nat.reduceMod, Nat.reduceLT, Nat.reduceLeDiff, Nat.reduceEqDiff, Nat.reduceBEq, Nat.reduceBNe, Nat.reduceGT, Int.reduceAdd, Int.reduceSub, Int.reduceMul, Int.reduceNeg, Int.reduceLT, Int.reduceLE, Int.reduceEq, Int.reduceNe, Int.reduceBEq, Int.reduceBNe, Int.reduceToNat, Int.reduceGT, Int.reduceGE, ↓reduceIte, decide_true, decide_false, eq_self, Nat.mul_one, Nat.zero_mul, Nat.one_mul, Int.le_refl, Nat.le_refl, Int.cast_ofNat_Int, Sx.cs, ← hHC', List.map_cons, List.map_nil]
      · simp (decide := true) (maxSteps := 4000000) only [go_sem, Nat.reduceAdd, Nat.reduceSub, Nat.reduceMul, Nat.reduceDiv, Nat.reduceMod, Nat.reduceLT, Nat.reduceLeDiff, Nat.reduceEqDiff, Nat.reduceBEq, Nat.reduceBNe, Nat.reduceGT, Int.reduceAdd, Int.reduceSub, Int.reduceMul, Int.reduceNeg, Int.reduceLT, Int.reduceLE, Int.reduceEq, Int.reduceNe, Int.reduceBEq, Int.reduceBNe, Int.reduceToNat, Int.reduceGT, Int.reduceGE, ↓reduceIte, decide_true, decide_false, eq_self, Nat.mul_one, Nat.zero_mul, Nat.one_mul, Int.le_refl, Nat.le_refl, Int.cast_ofNat_Int, Sx.cs]
      · rw [hnil] at hx; cases hx
      · simp (decide := true) (maxSteps := 4000000) only [go_sem, Nat.reduceAdd, Nat.reduceSub, Nat.reduceMul, Nat.reduceDiv, Nat.reduceMod, Nat.reduceLT, Nat.reduceLeDiff, Nat.reduceEqDiff, Nat.reduceBEq, Nat.reduceBNe, Nat.reduceGT, Int.reduceAdd, Int.reduceSub, Int.reduceMul, Int.reduceNeg, Int.reduceLT, Int.reduceLE, Int.reduceEq, Int.reduceNe, Int.reduceBEq, Int.reduceBNe, Int.reduceToNat, Int.reduceGT, Int.reduceGE, ↓reduceIte, decide_true, decide_false, eq_self, Nat.mul_one, Nat.zero_mul, Nat.one_mul, Int.le_refl, Nat.le_refl, Int.cast_ofNat_Int, hcb, hc, Bool.false_or, decide_false]
noncomputable def sxCan : List TV → Option TV
  | [.agg [.int .i64 a0, sT, .int .i64 a1, .int .i64 a2, .int .i64 a3, sS], s] => match rowL unS sT, rowL unS sS, rowL unTr s with
    | some tab, some shade, some l => if sxOk (⟨a0, tab, ⟨a1, a2⟩, a3, shade⟩ : Sx) = true ∧ l.all (trB (⟨a0, tab, ⟨a1, a2⟩, a3, shade⟩ : Sx)) = true ∧ l.length ≤ 8 then some (.bool (canB (⟨a0, tab, ⟨a1, a2⟩, a3, shade⟩ : Sx) l)) else none
    | _, _, _ => none
  | _ => none
theorem sxCan_ok : ∀ xs r, sxCan xs = some r → PCalls Try.prog 81 xs r := by
  intro xs r h
  unfold sxCan at h
  split at h
  · split at h
    · rename_i tab shade l hT hS hl
      have hT := rowL_some (un := unS) unS_nil (@unS_some) hT
      have hS := rowL_some (un := unS) unS_nil (@unS_some) hS
      have hl := rowL_some (un := unTr) unTr_nil (@unTr_some) hl
      split at h
      · rename_i hc; cases h; exact sCan_c ⟨_, tab, ⟨_, _⟩, _, shade⟩ hT hS hc.1 hl hc.2.1 hc.2.2
      · cases h
    · cases h
  · cases h
attribute [go_sem] sxCan
end Go.Proofs.Ytjmkccckohcfkaa

/- Part Sn. -/
namespace Go.Os
open Go Go.Pm Go.Oc Go.Oh
def wid2 (a c : Span) : Span := if c = a then a else widerS (widerS a c.lo false) c.hi false
theorem set_same {α : Type} {l : List α} {k : Nat} {a : α} (h : l[k]? = some a) : l.set k a = l := by
  refine List.ext_getElem? fun j => ?_
  rw [List.getElem?_set]
  split
  · rename_i e; subst e; split
    · exact h.symm
    · rename_i hn; rw [h]; exact absurd (List.getElem?_eq_some_iff.1 h).1 hn
  · rfl
def zipW (L T : List Span) : List Span := List.zipWith wid2 L T
def zipK (L T : List Span) (k : Nat) : List Span := zipW (L.take k) (T.take k) ++ L.drop k
theorem zipK_zero (L T : List Span) : zipK L T 0 = L := by simp [zipK, zipW]
theorem zipK_end {L T : List Span} (h : L.length = T.length) : zipK L T T.length = zipW L T := by
  unfold zipK; rw [← h, List.take_length, h, List.take_length, ← h, List.drop_length, List.append_nil]
theorem zipK_len {L T : List Span} (h : L.length = T.length) {k : Nat} (hk : k ≤ T.length) : (zipK L T k).length = T.length := by
  simp [zipK, zipW, List.length_zipWith, List.length_take, List.length_drop]; omega
theorem zipK_at {L T : List Span} (h : L.length = T.length) {k : Nat} (hk : k < T.length) : (zipK L T k)[k]? = L[k]? := by
  unfold zipK
  have h1 : (zipW (L.take k) (T.take k)).length = k := by simp [zipW, List.length_zipWith, List.length_take]; omega
  rw [List.getElem?_append_right (by omega), h1, Nat.sub_self, List.getElem?_drop, Nat.add_zero]
theorem zipK_succ {L T : List Span} (h : L.length = T.length) {k : Nat} {a c : Span} (ha : L[k]? = some a) (hc : T[k]? = some c) : zipK L T (k + 1) = (zipK L T k).set k (wid2 a c) := by
  have hk := (List.getElem?_eq_some_iff.1 hc).1
  have h1 : (zipW (L.take k) (T.take k)).length = k := by simp [zipW, List.length_zipWith, List.length_take]; omega
  have h3 : L.drop k = a :: L.drop (k + 1) := by
    rw [List.drop_eq_getElem_cons (by omega)]
    congr 1
    exact (List.getElem?_eq_some_iff.1 ha).2
  unfold zipK
  rw [take_snoc ha, take_snoc hc]
  have h2 : zipW (L.take k ++ [a]) (T.take k ++ [c]) = zipW (L.take k) (T.take k) ++ [wid2 a c] := by
    unfold zipW
    rw [List.zipWith_append (by simp [List.length_take]; omega)]
    rfl
  rw [h2, List.set_append_right _ _ (by omega), h1, Nat.sub_self, h3]
  simp
theorem zipW_self (T : List Span) : zipW T T = T := by
  unfold zipW
  induction T with
  | nil => rfl
  | cons t T ih => simp [wid2, ih]
/-- What is left so many tables on. -/
def tabsN (x : Sx) (l : List Tr) : List Nat := (List.range (idxN x)).filter (okI x l)
def trIx (x : Sx) (l : List Tr) (i : Nat) : Int := x.idx.lo + ((tabsN x l).getD i 0 : Int)
def trLeft (x : Sx) (l : List Tr) : Nat → List Span
  | 0 => []
  | i + 1 => zipW (if i = 0 then tabR x l (trIx x l i) else trLeft x l i) (tabR x l (trIx x l i))
def trIdx (x : Sx) (l : List Tr) : Nat → Span
  | 0 => ⟨0, 0⟩
  | i + 1 => widerS (trIdx x l i) (trIx x l i) (decide (i = 0))
theorem trLeft_len (x : Sx) (l : List Tr) : ∀ i, (trLeft x l (i + 1)).length = x.tab.length
  | 0 => by simp [trLeft, zipW, List.length_zipWith, tabR_len]
  | i + 1 => by
    have := trLeft_len x l i
    rw [trLeft, if_neg (by omega)]
    simp [zipW, List.length_zipWith, tabR_len, this]
theorem tabsV_is (x : Sx) (l : List Tr) {i : Nat} {v : List TV} (h : (tabsV x l)[i]? = some v) : v = [.int .i64 (trIx x l i), .sl ((tabR x l (trIx x l i)).flatMap Span.cs) x.tab.length false] := by
  unfold tabsV at h
  rw [List.getElem?_map] at h
  cases hj : ((List.range (idxN x)).filter (okI x l))[i]? with
  | none => rw [hj] at h; cases h
  | some j =>
    rw [hj] at h
    cases h
    have : trIx x l i = x.idx.lo + (j : Int) := by unfold trIx tabsN; rw [List.getD_eq_getElem?_getD, hj]; rfl
    rw [this]
def rowF1 (l : List Span) : TV := if l.length = 0 then .nilSl else .sl (l.flatMap Span.cs) l.length true
/-- What Trial returns. -/
def trialP (x : Sx) (l : List Tr) : List Span × Span × Int :=
  if openedE x l = 0 then (if (tabsV x l).length = 0 then ([], ⟨0, 0⟩, 54) else (trLeft x l (tabsV x l).length, trIdx x l (tabsV x l).length, 0)) else ([], ⟨0, 0⟩, openedE x l)
end Go.Os
namespace Go.Proofs.Ytjmkccckohcfkaa
open Go.RowKit Go.Pm Go.Oc Go.Oh Go.Os
set_option maxRecDepth 100000
set_option linter.unusedVariables false
set_option maxHeartbeats 8000000

noncomputable def spNa : Pm.Spec := Spec.oneH 78 sxClone ((((noSpec.one 77 sxHeard).one 76 sxTables).one 75 sxOpened).one 73 sxWider)
@[go_sem] theorem spNa_p (f : FuncId) (xs : List TV) : spNa.p f xs = Pm.Spec.p (Spec.oneH 78 sxClone ((((noSpec.one 77 sxHeard).one 76 sxTables).one 75 sxOpened).one 73 sxWider)) f xs := rfl
@[go_sem] theorem spNa_h (f : FuncId) (ps : List PV) (hl : List PO) : spNa.h f ps hl = Pm.Spec.h (Spec.oneH 78 sxClone ((((noSpec.one 77 sxHeard).one 76 sxTables).one 75 sxOpened).one 73 sxWider)) f ps hl := rfl
@[go_sem] theorem spNa_fz (f : FuncId) : spNa.fz f = Pm.Spec.fz (Spec.oneH 78 sxClone ((((noSpec.one 77 sxHeard).one 76 sxTables).one 75 sxOpened).one 73 sxWider)) f := rfl
@[go_sem] theorem spNa_fr (f : FuncId) : spNa.fr f = Pm.Spec.fr (Spec.oneH 78 sxClone ((((noSpec.one 77 sxHeard).one 76 sxTables).one 75 sxOpened).one 73 sxWider)) f := rfl
@[go_sem] theorem spNa_mu (t : TypeId) : spNa.mu t = Pm.Spec.mu (Spec.oneH 78 sxClone ((((noSpec.one 77 sxHeard).one 76 sxTables).one 75 sxOpened).one 73 sxWider)) t := rfl
@[go_sem] theorem spNa_nf (t : TypeId) : spNa.nf t = Pm.Spec.nf (Spec.oneH 78 sxClone ((((noSpec.one 77 sxHeard).one 76 sxTables).one 75 sxOpened).one 73 sxWider)) t := rfl
theorem spNa_ok : SpecOk Try.prog spNa := Spec.oneH_ok sxClone_ok (Spec.one_ok sxWider_ok (Spec.one_ok sxOpened_ok (Spec.one_ok sxTables_ok (Spec.one_ok sxHeard_ok noSpec_ok))))
theorem sTrial_c (x : Sx) {sT sS : TV} (hT : IsRow Span.cs sT x.tab) (hS : IsRow Span.cs sS x.shade) (lT : x.tab.length ≤ 9000000000000) (lS : x.shade.length ≤ 9000000000000) {l : List Tr} {s : TV} (hs : IsRow Tr.cs s l) (ll : l.length ≤ 9000000000000) :
    PCalls Try.prog 24 [x.t sT sS, s] (.tup [rowF1 (trialP x l).1, (trialP x l).2.1.t, .int .i64 (trialP x l).2.2]) := by
  have rT := rowS_is hT
  have rS := rowS_is hS
  have rs := rowTr_is hs
  unfold rowL at rT rS rs
  simp only [unS_nil] at rT rS
  simp only [unTr_nil] at rs
  have e0 : Sx.mk x.step x.tab ⟨x.idx.lo, x.idx.hi⟩ x.wrong x.shade = x := rfl
  refine pcalls_by Try.mixes spNa_ok (fn := Try.f24) Try.func24 rfl (by kernel_rfl) (by show 2 ≤ _; decide) ?_
  unfold trialP
  cases hv : sxOk x with
  | false =>
    have hE : openedE x l = 50 := by unfold openedE; rw [hv]; rfl
    have hO : openedT x sT sS = .agg [.int .i64 0, .nilSl, .int .i64 0, .int .i64 0, .int .i64 0, .nilSl] := by unfold openedT; rw [hv]; rfl
    have b : ((50 : Int) != 0) = true := rfl
    simp (decide := true) (maxSteps := 4000000) only [go_sem, Nat.reduceAdd, Nat.reduceSub, Nat.reduceMul, Nat.reduceDiv, Nat.reduceMod, Nat.reduceLT, Nat.reduceLeDiff, Nat.reduceEqDiff, Nat.reduceBEq, Nat.reduceBNe, Nat.reduceGT, Int.reduceAdd, Int.reduceSub, Int.reduceMul, Int.reduceNeg, Int.reduceLT, Int.reduceLE, Int.reduceEq, Int.reduceNe, Int.reduceBEq, Int.reduceBNe, Int.reduceToNat, Int.reduceGT, Int.reduceGE, ↓reduceIte, decide_true, decide_false, eq_self, Nat.mul_one, Nat.zero_mul, Nat.one_mul, Int.le_refl, Nat.le_refl, Int.cast_ofNat_Int, Try.f24, Sx.t, Sx.cs, rT, rS, rs, lT, lS, ll, e0, hE, hO, b, rowF1, List.length_nil, Span.t, Span.cs]
  | true =>
    have hO : openedT x sT sS = x.t sT sS := by unfold openedT; rw [hv]; rfl
    cases htr : trsOk x l with
    | false =>
      have hE : openedE x l = 53 := by unfold openedE; rw [hv, htr]; rfl
      have b : ((53 : Int) != 0) = true := rfl
      simp (decide := true) (maxSteps := 4000000) only [go_sem, Nat.reduceAdd, Nat.reduceSub, Nat.reduceMul, Nat.reduceDiv, Nat.reduceMod, Nat.reduceLT, Nat.reduceLeDiff, Nat.reduceEqDiff, Nat.reduceBEq, Nat.reduceBNe, Nat.reduceGT, Int.reduceAdd, Int.reduceSub, Int.reduceMul, Int.reduceNeg, Int.reduceLT, Int.reduceLE, Int.reduceEq, Int.reduceNe, Int.reduceBEq, Int.reduceBNe, Int.reduceToNat, Int.reduceGT, Int.reduceGE, ↓reduceIte, decide_true, decide_false, eq_self, Nat.mul_one, Nat.zero_mul, Nat.one_mul, Int.le_refl, Nat.le_refl, Int.cast_ofNat_Int, Try.f24, Sx.t, Sx.cs, rT, rS, rs, lT, lS, ll, e0, hE, hO, b, rowF1, List.length_nil, Span.t, Span.cs]
    | true =>
      have hE : openedE x l = 0 := by unfold openedE; rw [hv, htr]; rfl
      have b : ((0 : Int) != 0) = false := rfl
      have h := sxOk_iff.1 hv
      have hi := h.idx
      have htr' := htr
      unfold trsOk at htr'
      rw [Bool.and_eq_true, inB_iff] at htr'
      have hl := htr'.2
      have h8 : l.length ≤ 8 := by omega
      have hIt := sTablesI_c x (sS := sS) hT hv hl h8
      obtain ⟨vs, hh, hh'⟩ := heardT_is x l
      obtain ⟨f, rfl⟩ := good_T h hT
      have rT := unS_eq x.tab
      simp (decide := true) (maxSteps := 4000000) only [go_sem, Nat.reduceAdd, Nat.reduceSub, Nat.reduceMul, Nat.reduceDiv, Nat.reduceMod, Nat.reduceLT, Nat.reduceLeDiff, Nat.reduceEqDiff, Nat.reduceBEq, Nat.reduceBNe, Nat.reduceGT, Int.reduceAdd, Int.reduceSub, Int.reduceMul, Int.reduceNeg, Int.reduceLT, Int.reduceLE, Int.reduceEq, Int.reduceNe, Int.reduceBEq, Int.reduceBNe, Int.reduceToNat, Int.reduceGT, Int.reduceGE, ↓reduceIte, decide_true, decide_false, eq_self, Nat.mul_one, Nat.zero_mul, Nat.one_mul, Int.le_refl, Nat.le_refl, Int.cast_ofNat_Int, Try.f24, Sx.t, Sx.cs, rT, rS, rs, lT, lS, ll, e0, hE, hO, b, hv, hl, h8, hh]
      obtain ⟨HC, hHC⟩ : ∃ HC, heardC x l = HC := ⟨_, rfl⟩
      rw [hHC] at hIt
      have hHC' := hh'.symm.trans hHC
      have hl2 : ∀ v ∈ tabsV x l, v.length = 2 := fun v hv => by
        unfold tabsV at hv
        obtain ⟨y, _, rfl⟩ := List.mem_map.1 hv
        rfl
      have hlen := h.len
      have hflr : ∀ I, (List.flatMap Span.cs (tabR x l I)).length = x.tab.length * 2 := fun I => by rw [flat_len Span.cs (n := 2) (fun _ => rfl), tabR_len]
      obtain ⟨N, hN⟩ : ∃ N, (tabsV x l).length = N := ⟨_, rfl⟩
      rw [hN]
      refine pwpC_range rfl 99 [] [.cptr (x.cs (.sl (x.tab.flatMap Span.cs) x.tab.length f) sS), .cptr HC] (tabsV x l) [(27, .t (.fn 99 [] [.cptr (x.cs (.sl (x.tab.flatMap Span.cs) x.tab.length f) sS), .cptr HC])), (4, .ptr 1 0), (5, .ptr 2 0), (6, .t (.int .i64 0)), (7, .ptr 3 0)]
        (fun i => if i = 0 then [.box ((x.cs (.sl (x.tab.flatMap Span.cs) x.tab.length f) sS).map .t), .box [.t .nilSl], .box [.t (.int .i64 0), .t (.int .i64 0)], .box ((x.cs (.sl (x.tab.flatMap Span.cs) x.tab.length f) sS).map .t)]
          else [.box ((x.cs (.sl (x.tab.flatMap Span.cs) x.tab.length f) sS).map .t), .box [.gsl 4 1 2 0 x.tab.length false], .box ((trIdx x l i).cs.map .t), .box ((x.cs (.sl (x.tab.flatMap Span.cs) x.tab.length f) sS).map .t), .grow 1 (((trLeft x l i).flatMap Span.cs).map .t) 24 2]) 5 ?_ (by rfl) (by rfl) ?_ hIt hl2 (fun i => by split <;> simp) (fun i => by split <;> rfl) (fun i v hx => ?_) ?_
      · simp (decide := true) (maxSteps := 4000000) only [go_sem, Nat.reduceAdd, Nat.reduceSub, Nat.reduceMul, Nat.reduceDiv, Nat.reduceMod, Nat.reduceLT, Nat.reduceLeDiff, Nat.reduceEqDiff, Nat.reduceBEq, Nat.reduceBNe, Nat.reduceGT, Int.reduceAdd, Int.reduceSub, Int.reduceMul, Int.reduceNeg, Int.reduceLT, Int.reduceLE, Int.reduceEq, Int.reduceNe, Int.reduceBEq, Int.reduceBNe, Int.reduceToNat, Int.reduceGT, Int.reduceGE, ↓reduceIte, decide_true, decide_false, eq_self, Nat.mul_one, Nat.zero_mul, Nat.one_mul, Int.le_refl, Nat.le_refl, Int.cast_ofNat_Int, Sx.cs, ← hHC']
      · simp (decide := true) (maxSteps := 4000000) only [go_sem, Nat.reduceAdd, Nat.reduceSub, Nat.reduceMul, Nat.reduceDiv, Nat.reduceMod, Nat.reduceLT, Nat.reduceLeDiff, Nat.reduceEqDiff, Nat.reduceBEq, Nat.reduceBNe, Nat.reduceGT, Int.reduceAdd, Int.reduceSub, Int.reduceMul, Int.reduceNeg, Int.reduceLT, Int.reduceLE, Int.reduceEq, Int.reduceNe, Int.reduceBEq, Int.reduceBNe, Int.reduceToNat, Int.reduceGT, Int.reduceGE, ↓reduceIte, decide_true, decide_false, eq_self, Nat.mul_one, Nat.zero_mul, Nat.one_mul, Int.le_refl, Nat.le_refl, Int.cast_ofNat_Int, Sx.cs]
      · rw [tabsV_is x l hx]
        obtain ⟨I, hI⟩ : ∃ I, trIx x l i = I := ⟨_, rfl⟩
        rw [hI]
        have hR := tabR_len x l I
        have hfr := hflr I
        have h12 : 1 ≤ x.tab.length ∧ x.tab.length ≤ 12 := by omega
        obtain ⟨B, hB⟩ : ∃ B, (if i = 0 then tabR x l I else trLeft x l i) = B := ⟨_, rfl⟩
        have hBl : B.length = x.tab.length := by
          rw [← hB]
          cases i with
          | zero => rw [if_pos rfl]; exact hR
          | succ i => rw [if_neg (by omega)]; exact trLeft_len x l i
        have hnx : trLeft x l (i + 1) = zipW B (tabR x l I) := by rw [trLeft, hI, hB]
        have hni : trIdx x l (i + 1) = widerS (trIdx x l i) I (decide (i = 0)) := by rw [trIdx, hI]
        obtain ⟨T, hT'⟩ : ∃ T, tabR x l I = T := ⟨_, rfl⟩
        rw [hT'] at hR hfr hnx
        rw [hT']
        have hBT : B.length = T.length := by omega
        have z0 := zipK_zero B T
        have zn := zipK_end hBT
        rw [hR] at zn
        rcases Nat.eq_zero_or_pos i with hi0 | hi0
        · subst hi0
          rw [if_pos rfl, hT'] at hB
          have hix : trIdx x l 0 = ⟨0, 0⟩ := rfl
          have hd0 : decide (0 = 0) = true := rfl
          rw [hix, hd0] at hni
          simp (decide := true) (maxSteps := 4000000) only [go_sem, Nat.reduceAdd, Nat.reduceSub, Nat.reduceMul, Nat.reduceDiv, Nat.reduceMod, Nat.reduceLT, Nat.reduceLeDiff, Nat.reduceEqDiff, Nat.reduceBEq, Nat.reduceBNe, Nat.reduceGT, Int.reduceAdd, Int.reduceSub, Int.reduceMul, Int.reduceNeg, Int.reduceLT, Int.reduceLE, Int.reduceEq, Int.reduceNe, Int.reduceBEq, Int.reduceBNe, Int.reduceToNat, Int.reduceGT, Int.reduceGE, ↓reduceIte, decide_true, decide_false, eq_self, Nat.mul_one, Nat.zero_mul, Nat.one_mul, Int.le_refl, Nat.le_refl, Int.cast_ofNat_Int, Sx.cs, unS_eq, hR, h12, clV, clO]
          refine pwpC_loopU (A := { k : Nat // k ≤ x.tab.length }) [4, 5, 8, 10, 35, 36] (fun k => [(37, .t (.int .i64 k.1))]) (fun k => [(4, .grow 1 (((zipK B T k.1).flatMap Span.cs).map .t) 24 2)]) (fun k => x.tab.length - k.1) ⟨0, by omega⟩ (by decide) (fun _ => by rfl) ?_ fun Q1 hQ1 ⟨k, hk⟩ I1 hI1 => ?_
          · simp (decide := true) (maxSteps := 4000000) only [go_sem, Nat.reduceAdd, Nat.reduceSub, Nat.reduceMul, Nat.reduceDiv, Nat.reduceMod, Nat.reduceLT, Nat.reduceLeDiff, Nat.reduceEqDiff, Nat.reduceBEq, Nat.reduceBNe, Nat.reduceGT, Int.reduceAdd, Int.reduceSub, Int.reduceMul, Int.reduceNeg, Int.reduceLT, Int.reduceLE, Int.reduceEq, Int.reduceNe, Int.reduceBEq, Int.reduceBNe, Int.reduceToNat, Int.reduceGT, Int.reduceGE, ↓reduceIte, decide_true, decide_false, eq_self, Nat.mul_one, Nat.zero_mul, Nat.one_mul, Int.le_refl, Nat.le_refl, Int.cast_ofNat_Int, zipK_zero, hB]
          · by_cases hlt : (k : Int) < x.tab.length
            · have hkl : k < x.tab.length := by omega
              obtain ⟨c, hc⟩ := get_lt (l := T) (k := k) (by omega)
              obtain ⟨a, ha⟩ := get_lt (l := B) (k := k) (by omega)
              have hd := flat_at Span.cs (n := 2) (fun _ => rfl) hc
              have hc1 : IntKind.i64.wrap (k + 1) = ((k + 1 : Nat) : Int) := by rw [wrap_in (by omega) (by omega)]; omega
              have hzk := (zipK_at hBT (k := k) (by omega)).trans ha
              have hzs := zipK_succ hBT ha hc
              have hF := rowF (n := x.tab.length) (by rw [zipK_len hBT (by omega)]; exact hR) hzk
              by_cases hca : c = a
              · have hq : (c.lo == a.lo && c.hi == a.hi) = true := by rw [hca]; simp
                have hw : wid2 a c = a := if_pos hca
                have hss : (zipK B T k).set k a = zipK B T k := set_same hzk
                rw [hw, hss] at hzs
                simp (decide := true) (maxSteps := 4000000) only [go_sem, Nat.reduceAdd, Nat.reduceSub, Nat.reduceMul, Nat.reduceDiv, Nat.reduceMod, Nat.reduceLT, Nat.reduceLeDiff, Nat.reduceEqDiff, Nat.reduceBEq, Nat.reduceBNe, Nat.reduceGT, Int.reduceAdd, Int.reduceSub, Int.reduceMul, Int.reduceNeg, Int.reduceLT, Int.reduceLE, Int.reduceEq, Int.reduceNe, Int.reduceBEq, Int.reduceBNe, Int.reduceToNat, Int.reduceGT, Int.reduceGE, ↓reduceIte, decide_true, decide_false, eq_self, Nat.mul_one, Nat.zero_mul, Nat.one_mul, Int.le_refl, Nat.le_refl, Int.cast_ofNat_Int, hlt, hd, Span.cs, hF.len, hF.len', hF.drop, hF.lo, hF.hi, hF.b, hq]
                refine hI1 _ ⟨k + 1, by omega⟩ (by simp only; omega) ?_
                simp (decide := true) (maxSteps := 4000000) only [go_sem, Nat.reduceAdd, Nat.reduceSub, Nat.reduceMul, Nat.reduceDiv, Nat.reduceMod, Nat.reduceLT, Nat.reduceLeDiff, Nat.reduceEqDiff, Nat.reduceBEq, Nat.reduceBNe, Nat.reduceGT, Int.reduceAdd, Int.reduceSub, Int.reduceMul, Int.reduceNeg, Int.reduceLT, Int.reduceLE, Int.reduceEq, Int.reduceNe, Int.reduceBEq, Int.reduceBNe, Int.reduceToNat, Int.reduceGT, Int.reduceGE, ↓reduceIte, decide_true, decide_false, eq_self, Nat.mul_one, Nat.zero_mul, Nat.one_mul, Int.le_refl, Nat.le_refl, Int.cast_ofNat_Int, hc1, hzs, Span.cs]
              · have hq : (c.lo == a.lo && c.hi == a.hi) = false := by
                  cases hx : (c.lo == a.lo && c.hi == a.hi) with
                  | false => rfl
                  | true =>
                    rw [Bool.and_eq_true, beq_iff_eq, beq_iff_eq] at hx
                    obtain ⟨a0, a1⟩ := a; obtain ⟨c0, c1⟩ := c
                    exact absurd (by rw [show c0 = a0 from hx.1, show c1 = a1 from hx.2]) hca
                have hw : wid2 a c = widerS (widerS a c.lo false) c.hi false := if_neg hca
                rw [hw] at hzs
                have ea : Span.mk a.lo a.hi = a := rfl
                simp (decide := true) (maxSteps := 4000000) only [go_sem, Nat.reduceAdd, Nat.reduceSub, Nat.reduceMul, Nat.reduceDiv, Nat.reduceMod, Nat.reduceLT, Nat.reduceLeDiff, Nat.reduceEqDiff, Nat.reduceBEq, Nat.reduceBNe, Nat.reduceGT, Int.reduceAdd, Int.reduceSub, Int.reduceMul, Int.reduceNeg, Int.reduceLT, Int.reduceLE, Int.reduceEq, Int.reduceNe, Int.reduceBEq, Int.reduceBNe, Int.reduceToNat, Int.reduceGT, Int.reduceGE, ↓reduceIte, decide_true, decide_false, eq_self, Nat.mul_one, Nat.zero_mul, Nat.one_mul, Int.le_refl, Nat.le_refl, Int.cast_ofNat_Int, hlt, hd, Span.cs, Span.t, hF.len, hF.len', hF.drop, hF.lo, hF.hi, hF.b, hF.set, hq, ea]
                refine hI1 _ ⟨k + 1, by omega⟩ (by simp only; omega) ?_
                simp (decide := true) (maxSteps := 4000000) only [go_sem, Nat.reduceAdd, Nat.reduceSub, Nat.reduceMul, Nat.reduceDiv, Nat.reduceMod, Nat.reduceLT, Nat.reduceLeDiff, Nat.reduceEqDiff, Nat.reduceBEq, Nat.reduceBNe, Nat.reduceGT, Int.reduceAdd, Int.reduceSub, Int.reduceMul, Int.reduceNeg, Int.reduceLT, Int.reduceLE, Int.reduceEq, Int.reduceNe, Int.reduceBEq, Int.reduceBNe, Int.reduceToNat, Int.reduceGT, Int.reduceGE, ↓reduceIte, decide_true, decide_false, eq_self, Nat.mul_one, Nat.zero_mul, Nat.one_mul, Int.le_refl, Nat.le_refl, Int.cast_ofNat_Int, hc1, hzs, Span.cs]
            · have hke : k = x.tab.length := by omega
              subst hke
              simp (decide := true) (maxSteps := 4000000) only [go_sem, Nat.reduceAdd, Nat.reduceSub, Nat.reduceMul, Nat.reduceDiv, Nat.reduceMod, Nat.reduceLT, Nat.reduceLeDiff, Nat.reduceEqDiff, Nat.reduceBEq, Nat.reduceBNe, Nat.reduceGT, Int.reduceAdd, Int.reduceSub, Int.reduceMul, Int.reduceNeg, Int.reduceLT, Int.reduceLE, Int.reduceEq, Int.reduceNe, Int.reduceBEq, Int.reduceBNe, Int.reduceToNat, Int.reduceGT, Int.reduceGE, ↓reduceIte, decide_true, decide_false, eq_self, Nat.mul_one, Nat.zero_mul, Nat.one_mul, Int.le_refl, Nat.le_refl, Int.cast_ofNat_Int, hlt]
              refine hQ1 _ _ ?_
              simp (decide := true) (maxSteps := 4000000) only [go_sem, Nat.reduceAdd, Nat.reduceSub, Nat.reduceMul, Nat.reduceDiv, Nat.reduceMod, Nat.reduceLT, Nat.reduceLeDiff, Nat.reduceEqDiff, Nat.reduceBEq, Nat.reduceBNe, Nat.reduceGT, Int.reduceAdd, Int.reduceSub, Int.reduceMul, Int.reduceNeg, Int.reduceLT, Int.reduceLE, Int.reduceEq, Int.reduceNe, Int.reduceBEq, Int.reduceBNe, Int.reduceToNat, Int.reduceGT, Int.reduceGE, ↓reduceIte, decide_true, decide_false, eq_self, Nat.mul_one, Nat.zero_mul, Nat.one_mul, Int.le_refl, Nat.le_refl, Int.cast_ofNat_Int, zn, hnx, hni, Span.cs, Span.t]
        · rw [if_neg (by omega)] at hB
          obtain ⟨i, rfl⟩ : ∃ j, i = j + 1 := ⟨i - 1, by omega⟩
          have hd0 : decide (i + 1 = 0) = false := rfl
          rw [hd0] at hni
          simp (decide := true) (maxSteps := 4000000) only [go_sem, Nat.reduceAdd, Nat.reduceSub, Nat.reduceMul, Nat.reduceDiv, Nat.reduceMod, Nat.reduceLT, Nat.reduceLeDiff, Nat.reduceEqDiff, Nat.reduceBEq, Nat.reduceBNe, Nat.reduceGT, Int.reduceAdd, Int.reduceSub, Int.reduceMul, Int.reduceNeg, Int.reduceLT, Int.reduceLE, Int.reduceEq, Int.reduceNe, Int.reduceBEq, Int.reduceBNe, Int.reduceToNat, Int.reduceGT, Int.reduceGE, ↓reduceIte, decide_true, decide_false, eq_self, Nat.mul_one, Nat.zero_mul, Nat.one_mul, Int.le_refl, Nat.le_refl, Int.cast_ofNat_Int, Sx.cs, unS_eq, hR, h12, clV, clO]
          refine pwpC_loopU (A := { k : Nat // k ≤ x.tab.length }) [4, 5, 8, 10, 35, 36] (fun k => [(37, .t (.int .i64 k.1))]) (fun k => [(4, .grow 1 (((zipK B T k.1).flatMap Span.cs).map .t) 24 2)]) (fun k => x.tab.length - k.1) ⟨0, by omega⟩ (by decide) (fun _ => by rfl) ?_ fun Q1 hQ1 ⟨k, hk⟩ I1 hI1 => ?_
          · simp (decide := true) (maxSteps := 4000000) only [go_sem, Nat.reduceAdd, Nat.reduceSub, Nat.reduceMul, Nat.reduceDiv, Nat.reduceMod, Nat.reduceLT, Nat.reduceLeDiff, Nat.reduceEqDiff, Nat.reduceBEq, Nat.reduceBNe, Nat.reduceGT, Int.reduceAdd, Int.reduceSub, Int.reduceMul, Int.reduceNeg, Int.reduceLT, Int.reduceLE, Int.reduceEq, Int.reduceNe, Int.reduceBEq, Int.reduceBNe, Int.reduceToNat, Int.reduceGT, Int.reduceGE, ↓reduceIte, decide_true, decide_false, eq_self, Nat.mul_one, Nat.zero_mul, Nat.one_mul, Int.le_refl, Nat.le_refl, Int.cast_ofNat_Int, zipK_zero, hB]
          · by_cases hlt : (k : Int) < x.tab.length
            · have hkl : k < x.tab.length := by omega
              obtain ⟨c, hc⟩ := get_lt (l := T) (k := k) (by omega)
              obtain ⟨a, ha⟩ := get_lt (l := B) (k := k) (by omega)
              have hd := flat_at Span.cs (n := 2) (fun _ => rfl) hc
              have hc1 : IntKind.i64.wrap (k + 1) = ((k + 1 : Nat) : Int) := by rw [wrap_in (by omega) (by omega)]; omega
              have hzk := (zipK_at hBT (k := k) (by omega)).trans ha
              have hzs := zipK_succ hBT ha hc
              have hF := rowF (n := x.tab.length) (by rw [zipK_len hBT (by omega)]; exact hR) hzk
              by_cases hca : c = a
              · have hq : (c.lo == a.lo && c.hi == a.hi) = true := by rw [hca]; simp
                have hw : wid2 a c = a := if_pos hca
                have hss : (zipK B T k).set k a = zipK B T k := set_same hzk
                rw [hw, hss] at hzs
                simp (decide := true) (maxSteps := 4000000) only [go_sem, Nat.reduceAdd, Nat.reduceSub, Nat.reduceMul, Nat.reduceDiv, Nat.reduceMod, Nat.reduceLT, Nat.reduceLeDiff, Nat.reduceEqDiff, Nat.reduceBEq, Nat.reduceBNe, Nat.reduceGT, Int.reduceAdd, Int.reduceSub, Int.reduceMul, Int.reduceNeg, Int.reduceLT, Int.reduceLE, Int.reduceEq, Int.reduceNe, Int.reduceBEq, Int.reduceBNe, Int.reduceToNat, Int.reduceGT, Int.reduceGE, ↓reduceIte, decide_true, decide_false, eq_self, Nat.mul_one, Nat.zero_mul, Nat.one_mul, Int.le_refl, Nat.le_refl, Int.cast_ofNat_Int, hlt, hd, Span.cs, hF.len, hF.len', hF.drop, hF.lo, hF.hi, hF.b, hq]
                refine hI1 _ ⟨k + 1, by omega⟩ (by simp only; omega) ?_
                simp (decide := true) (maxSteps := 4000000) only [go_sem, Nat.reduceAdd, Nat.reduceSub, Nat.reduceMul, Nat.reduceDiv, Nat.reduceMod, Nat.reduceLT, Nat.reduceLeDiff, Nat.reduceEqDiff, Nat.reduceBEq, Nat.reduceBNe, Nat.reduceGT, Int.reduceAdd, Int.reduceSub, Int.reduceMul, Int.reduceNeg, Int.reduceLT, Int.reduceLE, Int.reduceEq, Int.reduceNe, Int.reduceBEq, Int.reduceBNe, Int.reduceToNat, Int.reduceGT, Int.reduceGE, ↓reduceIte, decide_true, decide_false, eq_self, Nat.mul_one, Nat.zero_mul, Nat.one_mul, Int.le_refl, Nat.le_refl, Int.cast_ofNat_Int, hc1, hzs, Span.cs]
              · have hq : (c.lo == a.lo && c.hi == a.hi) = false := by
                  cases hx : (c.lo == a.lo && c.hi == a.hi) with
                  | false => rfl
                  | true =>
                    rw [Bool.and_eq_true, beq_iff_eq, beq_iff_eq] at hx
                    obtain ⟨a0, a1⟩ := a; obtain ⟨c0, c1⟩ := c
                    exact absurd (by rw [show c0 = a0 from hx.1, show c1 = a1 from hx.2]) hca
                have hw : wid2 a c = widerS (widerS a c.lo false) c.hi false := if_neg hca
                rw [hw] at hzs
                have ea : Span.mk a.lo a.hi = a := rfl
                simp (decide := true) (maxSteps := 4000000) only [go_sem, Nat.reduceAdd, Nat.reduceSub, Nat.reduceMul, Nat.reduceDiv, Nat.reduceMod, Nat.reduceLT, Nat.reduceLeDiff, Nat.reduceEqDiff, Nat.reduceBEq, Nat.reduceBNe, Nat.reduceGT, Int.reduceAdd, Int.reduceSub, Int.reduceMul, Int.reduceNeg, Int.reduceLT, Int.reduceLE, Int.reduceEq, Int.reduceNe, Int.reduceBEq, Int.reduceBNe, Int.reduceToNat, Int.reduceGT, Int.reduceGE, ↓reduceIte, decide_true, decide_false, eq_self, Nat.mul_one, Nat.zero_mul, Nat.one_mul, Int.le_refl, Nat.le_refl, Int.cast_ofNat_Int, hlt, hd, Span.cs, Span.t, hF.len, hF.len', hF.drop, hF.lo, hF.hi, hF.b, hF.set, hq, ea]
                refine hI1 _ ⟨k + 1, by omega⟩ (by simp only; omega) ?_
                simp (decide := true) (maxSteps := 4000000) only [go_sem, Nat.reduceAdd, Nat.reduceSub, Nat.reduceMul, Nat.reduceDiv, Nat.reduceMod, Nat.reduceLT, Nat.reduceLeDiff, Nat.reduceEqDiff, Nat.reduceBEq, Nat.reduceBNe, Nat.reduceGT, Int.reduceAdd, Int.reduceSub, Int.reduceMul, Int.reduceNeg, Int.reduceLT, Int.reduceLE, Int.reduceEq, Int.reduceNe, Int.reduceBEq, Int.reduceBNe, Int.reduceToNat, Int.reduceGT, Int.reduceGE, ↓reduceIte, decide_true, decide_false, eq_self, Nat.mul_one, Nat.zero_mul, Nat.one_mul, Int.le_refl, Nat.le_refl, Int.cast_ofNat_Int, hc1, hzs, Span.cs]
            · have hke : k = x.tab.length := by omega
              subst hke
              simp (decide := true) (maxSteps := 4000000) only [go_sem, Nat.reduceAdd, Nat.reduceSub, Nat.reduceMul, Nat.reduceDiv, Nat.reduceMod, Nat.reduceLT, Nat.reduceLeDiff, Nat.reduceEqDiff, Nat.reduceBEq, Nat.reduceBNe, Nat.reduceGT, Int.reduceAdd, Int.reduceSub, Int.reduceMul, Int.reduceNeg, Int.reduceLT, Int.reduceLE, Int.reduceEq, Int.reduceNe, Int.reduceBEq, Int.reduceBNe, Int.reduceToNat, Int.reduceGT, Int.reduceGE, ↓reduceIte, decide_true, decide_false, eq_self, Nat.mul_one, Nat.zero_mul, Nat.one_mul, Int.le_refl, Nat.le_refl, Int.cast_ofNat_Int, hlt]
              refine hQ1 _ _ ?_
              simp (decide := true) (maxSteps := 4000000) only [go_sem, Nat.reduceAdd, Nat.reduceSub, Nat.reduceMul, Nat.reduceDiv, Nat.reduceMod, Nat.reduceLT, Nat.reduceLeDiff, Nat.reduceEqDiff, Nat.reduceBEq, Nat.reduceBNe, Nat.reduceGT, Int.reduceAdd, Int.reduceSub, Int.reduceMul, Int.reduceNeg, Int.reduceLT, Int.reduceLE, Int.reduceEq, Int.reduceNe, Int.reduceBEq, Int.reduceBNe, Int.reduceToNat, Int.reduceGT, Int.reduceGE, ↓reduceIte, decide_true, decide_false, eq_self, Nat.mul_one, Nat.zero_mul, Nat.one_mul, Int.le_refl, Nat.le_refl, Int.cast_ofNat_Int, zn, hnx, hni, Span.cs, Span.t]
      · cases N with
        | zero =>
          rw [hN]
          simp (decide := true) (maxSteps := 4000000) only [go_sem, Nat.reduceAdd, Nat.reduceSub, Nat.reduceMul, Nat.reduceDiv, Nat.reduceMod, Nat.reduceLT, Nat.reduceLeDiff, Nat.reduceEqDiff, Nat.reduceBEq, Nat.reduceBNe, Nat.reduceGT, Int.reduceAdd, Int.reduceSub, Int.reduceMul, Int.reduceNeg, Int.reduceLT, Int.reduceLE, Int.reduceEq, Int.reduceNe, Int.reduceBEq, Int.reduceBNe, Int.reduceToNat, Int.reduceGT, Int.reduceGE, ↓reduceIte, decide_true, decide_false, eq_self, Nat.mul_one, Nat.zero_mul, Nat.one_mul, Int.le_refl, Nat.le_refl, Int.cast_ofNat_Int, Sx.cs, rowF1, List.length_nil, Span.t, Span.cs]
        | succ N =>
          rw [hN]
          have hLl := trLeft_len x l N
          obtain ⟨L, hL⟩ : ∃ L, trLeft x l (N + 1) = L := ⟨_, rfl⟩
          rw [hL] at hLl
          have hn0 : ¬ x.tab.length = 0 := by omega
          have hfL : (List.flatMap Span.cs L).length = x.tab.length * 2 := by rw [flat_len Span.cs (n := 2) (fun _ => rfl), hLl]
          have htk : List.take (x.tab.length * 2) (L.flatMap Span.cs) = L.flatMap Span.cs := List.take_of_length_le (by omega)
          have hlm : (List.map PV.t (L.flatMap Span.cs)).length = x.tab.length * 2 := by rw [List.length_map, hfL]
          have c1 : (0 : Int) ≤ x.tab.length := by omega
          simp (decide := true) (maxSteps := 4000000) only [go_sem, Nat.reduceAdd, Nat.reduceSub, Nat.reduceMul, Nat.reduceDiv, Nat.reduceMod, Nat.reduceLT, Nat.reduceLeDiff, Nat.reduceEqDiff, Nat.reduceBEq, Nat.reduceBNe, Nat.reduceGT, Int.reduceAdd, Int.reduceSub, Int.reduceMul, Int.reduceNeg, Int.reduceLT, Int.reduceLE, Int.reduceEq, Int.reduceNe, Int.reduceBEq, Int.reduceBNe, Int.reduceToNat, Int.reduceGT, Int.reduceGE, ↓reduceIte, decide_true, decide_false, eq_self, Nat.mul_one, Nat.zero_mul, Nat.one_mul, Int.le_refl, Nat.le_refl, Int.cast_ofNat_Int, hL, hLl, hn0, hfL, htk, hlm, Sx.cs, rowF1, Span.t, Span.cs, sliceG, Option.isSome_some, Int.toNat_natCast, Nat.sub_zero, List.drop_zero, Nat.zero_add, freezeW, freezeO, closedG, seenF, wr, upo, thawA, c1]
          done
end Go.Proofs.Ytjmkccckohcfkaa

/- Part So. -/
namespace Go.Os
open Go Go.Pm Go.Oc Go.Oh
/-- Can such a choice of trials be made with no true sextant? -/
def badC (x : Sx) (l : List Tr) (S : List Nat) : Bool := !canB x (selA l S)
def frO (S : List Nat) : Nat := match S.getLast? with | none => 0 | some i => i + 1
theorem frO_snoc (S : List Nat) (i : Nat) : frO (S ++ [i]) = i + 1 := by unfold frO; simp
theorem selA_take {l : List Tr} {S : List Nat} {k i : Nat} {p : Tr} (hi : S[k]? = some i) (hp : l[i]? = some p) : selA l (S.take (k + 1)) = selA l (S.take k) ++ [p] := by
  rw [take_snoc hi, selA_snoc hp]
theorem ints_at {S : List Nat} {k i : Nat} (h : S[k]? = some i) : (ints (nI S)).drop k = .int .i64 i :: (ints (nI (S.drop (k + 1)))) := by
  have hd := (List.getElem?_eq_some_iff.1 h)
  have h3 : S.drop k = i :: S.drop (k + 1) := by
    rw [List.drop_eq_getElem_cons hd.1]; congr 1; exact hd.2
  unfold ints nI
  rw [← List.map_drop, ← List.map_drop, h3]; rfl
theorem trs_sel {x : Sx} {l : List Tr} (h : l.all (trB x) = true) (S : List Nat) : (selA l S).all (trB x) = true := List.all_eq_true.2 fun p hp => List.all_eq_true.1 h p (selA_sub hp)
end Go.Os
namespace Go.Proofs.Ytjmkccckohcfkaa
open Go.RowKit Go.Pm Go.Oc Go.Oh Go.Os
set_option maxRecDepth 100000
set_option linter.unusedVariables false
set_option maxHeartbeats 8000000

noncomputable def spOa : Pm.Spec := noSpec.one 81 sxCan
@[go_sem] theorem spOa_p (f : FuncId) (xs : List TV) : spOa.p f xs = Pm.Spec.p (noSpec.one 81 sxCan) f xs := rfl
@[go_sem] theorem spOa_h (f : FuncId) (ps : List PV) (hl : List PO) : spOa.h f ps hl = Pm.Spec.h (noSpec.one 81 sxCan) f ps hl := rfl
@[go_sem] theorem spOa_fz (f : FuncId) : spOa.fz f = Pm.Spec.fz (noSpec.one 81 sxCan) f := rfl
@[go_sem] theorem spOa_fr (f : FuncId) : spOa.fr f = Pm.Spec.fr (noSpec.one 81 sxCan) f := rfl
@[go_sem] theorem spOa_mu (t : TypeId) : spOa.mu t = Pm.Spec.mu (noSpec.one 81 sxCan) t := rfl
@[go_sem] theorem spOa_nf (t : TypeId) : spOa.nf t = Pm.Spec.nf (noSpec.one 81 sxCan) t := rfl
theorem spOa_ok : SpecOk Try.prog spOa := Spec.one_ok sxCan_ok noSpec_ok
/-- The objects of the search. -/
def choO (x : Sx) (sT sS s : TV) (o : List Nat) : List PO := [.box [.t s], .box [.t (rowI (nI o))], .box ((x.cs sT sS).map .t), .box [.fnc 82 [0, 1, 2, 3]]]
def FalseC (x : Sx) (sT sS : TV) (l : List Tr) (s : TV) (m : Nat) : Prop := ∀ (S o : List Nat) (many : Nat), S.length + m = many → 1 ≤ many → many ≤ l.length → (∀ i ∈ S, i < l.length) →
  HCalls Try.prog 82 [.t (rowI (nI S)), .t (.int .i64 many), .ptr 0 0, .ptr 1 0, .ptr 2 0, .ptr 3 0] (getL (choO x sT sS s o))
    (.t (.bool (cho l.length (badC x l) m S (frO S) o).1)) (getL (choO x sT sS s (cho l.length (badC x l) m S (frO S) o).2))
theorem false_zero (x : Sx) {sT sS : TV} (hT : IsRow Span.cs sT x.tab) (hS : IsRow Span.cs sS x.shade) (hv : sxOk x = true) {l : List Tr} (g : Bool) (hl : l.all (trB x) = true) (h8 : l.length ≤ 8) : FalseC x sT sS l (.sl (l.flatMap Tr.cs) l.length g) 0 := by
  intro S o many hm h1 hml hS'
  have rT := rowS_is hT
  have rS := rowS_is hS
  unfold rowL at rT rS
  simp only [unS_nil] at rT rS
  have e0 : Sx.mk x.step x.tab ⟨x.idx.lo, x.idx.hi⟩ x.wrong x.shade = x := rfl
  have hSl : S.length = many := by omega
  have hSn : ¬ S.length = 0 := by omega
  have hSS : S.length ≤ 8 := by omega
  have hb : ((S.length : Int) == (many : Int)) = true := by rw [hSl]; simp
  have hrow : rowI (nI S) = .sl (ints (nI S)) S.length false := by rw [rowI_ne (by rw [nI_len]; exact hSn), nI_len]
  rw [hrow]
  refine hcalls_by Try.mixes spOa_ok (fn := Try.f82) Try.func82 rfl (by kernel_rfl) (by show 6 ≤ _; decide) ?_
  simp (decide := true) (maxSteps := 4000000) only [go_sem, Nat.reduceAdd, Nat.reduceSub, Nat.reduceMul, Nat.reduceDiv, Nat.reduceMod, Nat.reduceLT, Nat.reduceLeDiff, Nat.reduceEqDiff, Nat.reduceBEq, Nat.reduceBNe, Nat.reduceGT, Int.reduceAdd, Int.reduceSub, Int.reduceMul, Int.reduceNeg, Int.reduceLT, Int.reduceLE, Int.reduceEq, Int.reduceNe, Int.reduceBEq, Int.reduceBNe, Int.reduceToNat, Int.reduceGT, Int.reduceGE, ↓reduceIte, decide_true, decide_false, eq_self, Nat.mul_one, Nat.zero_mul, Nat.one_mul, Int.le_refl, Nat.le_refl, Int.cast_ofNat_Int, Try.f82, choO, Sx.cs, hb]
  refine pwpC_loopU (A := { k : Nat // k ≤ S.length }) [18, 19, 0, 2, 3, 4] (fun k => [(20, .t (.int .i64 k.1)), (9, .own ((selA l (S.take k.1)).flatMap Tr.cs) k.1 4)]) (fun k => [(4, .tok k.1 84)]) (fun k => S.length - k.1) ⟨0, by omega⟩ (by decide) (fun _ => by rfl) ?_ fun Q1 hQ1 ⟨k, hk⟩ I1 hI1 => ?_
  · simp (decide := true) (maxSteps := 4000000) only [go_sem, Nat.reduceAdd, Nat.reduceSub, Nat.reduceMul, Nat.reduceDiv, Nat.reduceMod, Nat.reduceLT, Nat.reduceLeDiff, Nat.reduceEqDiff, Nat.reduceBEq, Nat.reduceBNe, Nat.reduceGT, Int.reduceAdd, Int.reduceSub, Int.reduceMul, Int.reduceNeg, Int.reduceLT, Int.reduceLE, Int.reduceEq, Int.reduceNe, Int.reduceBEq, Int.reduceBNe, Int.reduceToNat, Int.reduceGT, Int.reduceGE, ↓reduceIte, decide_true, decide_false, eq_self, Nat.mul_one, Nat.zero_mul, Nat.one_mul, Int.le_refl, Nat.le_refl, Int.cast_ofNat_Int, selA, List.take_zero, List.filterMap_nil]
  · by_cases hlt : (k : Int) < S.length
    · obtain ⟨i, hi⟩ := get_lt hlt
      have hil := hS' i (List.mem_of_getElem? hi)
      obtain ⟨p, hp⟩ := get_lt (l := l) (k := i) (by omega)
      have hd := ints_at hi
      have hdl := flat_at Tr.cs (n := 3) (fun _ => rfl) hp
      have hc1 : IntKind.i64.wrap (k + 1) = ((k + 1 : Nat) : Int) := by rw [wrap_in (by omega) (by omega)]; omega
      have hil' : (i : Int) < l.length := by omega
      have hsel := selA_take hi hp
      have hfl : (List.flatMap Tr.cs (selA l (S.take k))).length = k * 3 := by
        rw [flat_len Tr.cs (n := 3) (fun _ => rfl), selA_len (fun y hy => hS' y (List.mem_of_mem_take hy)), List.length_take]
        congr 1; omega
      have hr : (k + 1) * 24 ≤ 140737488355328 := by omega
      simp (decide := true) (maxSteps := 4000000) only [go_sem, Nat.reduceAdd, Nat.reduceSub, Nat.reduceMul, Nat.reduceDiv, Nat.reduceMod, Nat.reduceLT, Nat.reduceLeDiff, Nat.reduceEqDiff, Nat.reduceBEq, Nat.reduceBNe, Nat.reduceGT, Int.reduceAdd, Int.reduceSub, Int.reduceMul, Int.reduceNeg, Int.reduceLT, Int.reduceLE, Int.reduceEq, Int.reduceNe, Int.reduceBEq, Int.reduceBNe, Int.reduceToNat, Int.reduceGT, Int.reduceGE, ↓reduceIte, decide_true, decide_false, eq_self, Nat.mul_one, Nat.zero_mul, Nat.one_mul, Int.le_refl, Nat.le_refl, Int.cast_ofNat_Int, hlt, hd, hdl, hil', Int.toNat_natCast, Tr.cs, hfl, hr]
      refine hI1 _ ⟨k + 1, by omega⟩ (by simp only; omega) ?_
      simp (decide := true) (maxSteps := 4000000) only [go_sem, Nat.reduceAdd, Nat.reduceSub, Nat.reduceMul, Nat.reduceDiv, Nat.reduceMod, Nat.reduceLT, Nat.reduceLeDiff, Nat.reduceEqDiff, Nat.reduceBEq, Nat.reduceBNe, Nat.reduceGT, Int.reduceAdd, Int.reduceSub, Int.reduceMul, Int.reduceNeg, Int.reduceLT, Int.reduceLE, Int.reduceEq, Int.reduceNe, Int.reduceBEq, Int.reduceBNe, Int.reduceToNat, Int.reduceGT, Int.reduceGE, ↓reduceIte, decide_true, decide_false, eq_self, Nat.mul_one, Nat.zero_mul, Nat.one_mul, Int.le_refl, Nat.le_refl, Int.cast_ofNat_Int, hc1, hsel, List.flatMap_append, Tr.cs]
    · have hke : k = S.length := by omega
      subst hke
      simp (decide := true) (maxSteps := 4000000) only [go_sem, Nat.reduceAdd, Nat.reduceSub, Nat.reduceMul, Nat.reduceDiv, Nat.reduceMod, Nat.reduceLT, Nat.reduceLeDiff, Nat.reduceEqDiff, Nat.reduceBEq, Nat.reduceBNe, Nat.reduceGT, Int.reduceAdd, Int.reduceSub, Int.reduceMul, Int.reduceNeg, Int.reduceLT, Int.reduceLE, Int.reduceEq, Int.reduceNe, Int.reduceBEq, Int.reduceBNe, Int.reduceToNat, Int.reduceGT, Int.reduceGE, ↓reduceIte, decide_true, decide_false, eq_self, Nat.mul_one, Nat.zero_mul, Nat.one_mul, Int.le_refl, Nat.le_refl, Int.cast_ofNat_Int, hlt]
      refine hQ1 _ _ ?_
      rw [List.take_length]
      have hsl : (selA l S).length = S.length := selA_len hS'
      have htr := trs_sel hl S
      have hbad : badC x l S = !canB x (selA l S) := rfl
      simp (decide := true) (maxSteps := 4000000) only [go_sem, Nat.reduceAdd, Nat.reduceSub, Nat.reduceMul, Nat.reduceDiv, Nat.reduceMod, Nat.reduceLT, Nat.reduceLeDiff, Nat.reduceEqDiff, Nat.reduceBEq, Nat.reduceBNe, Nat.reduceGT, Int.reduceAdd, Int.reduceSub, Int.reduceMul, Int.reduceNeg, Int.reduceLT, Int.reduceLE, Int.reduceEq, Int.reduceNe, Int.reduceBEq, Int.reduceBNe, Int.reduceToNat, Int.reduceGT, Int.reduceGE, ↓reduceIte, decide_true, decide_false, eq_self, Nat.mul_one, Nat.zero_mul, Nat.one_mul, Int.le_refl, Nat.le_refl, Int.cast_ofNat_Int, rT, rS, hSn, unTr_eq, hsl, htr, hSS, e0, hv, cho, hbad, hrow]
      exact ⟨_, rfl, rfl⟩
theorem allO_snocT : ∀ (xs : List TV) (y : TV), allO (List.map PV.toT (List.map PV.t xs ++ [PV.t y])) = some (xs ++ [y])
  | [], y => rfl
  | x :: xs, y => by simp only [List.map_cons, List.cons_append, allO, PV.toT, allO_snocT xs y, Option.map_some]
theorem rowI_inj {a b : List Nat} (h : rowI (nI a) = rowI (nI b)) : a = b := by
  unfold rowI at h
  split at h <;> split at h
  · rename_i h1 h2
    rw [nI_len] at h1 h2
    rw [List.length_eq_zero_iff.1 h1, List.length_eq_zero_iff.1 h2]
  · cases h
  · cases h
  · simp only [TV.sl.injEq] at h
    have h2 := h.1
    rw [← ic_ints, ← ic_ints] at h2
    exact nI_inj (flat_inj (c := ic) (n := 1) (fun _ => rfl) (by decide) (fun x y h => by simpa [ic] using h) h2)
def falA (S : List Nat) (many : Nat) : List PV := [.t (rowI (nI S)), .t (.int .i64 (many : Nat)), .ptr 0 0, .ptr 1 0, .ptr 2 0, .ptr 3 0]
open Classical in
noncomputable def gFal (x : Sx) (sT sS : TV) (l : List Tr) (s : TV) (m : Nat) (ps : List PV) (hl : List PO) : Option (PV × List PO) :=
  if h : ∃ So : List Nat × List Nat, ∃ many : Nat, So.1.length + m = many ∧ 1 ≤ many ∧ many ≤ l.length ∧ (∀ i ∈ So.1, i < l.length) ∧ ps = falA So.1 many ∧ hl = choO x sT sS s So.2 then
    some (.t (.bool (cho l.length (badC x l) m h.choose.1 (frO h.choose.1) h.choose.2).1), choO x sT sS s (cho l.length (badC x l) m h.choose.1 (frO h.choose.1) h.choose.2).2) else none
theorem gFal_ok {x : Sx} {sT sS : TV} {l : List Tr} {s : TV} {m : Nat} (h : FalseC x sT sS l s m) : ∀ xs hl r hl', gFal x sT sS l s m xs hl = some (r, hl') → HCalls Try.prog 82 xs (getL hl) r (getL hl') := by
  intro xs hl r hl' hg
  unfold gFal at hg
  split at hg
  · rename_i hc
    obtain ⟨many, h1, h2, h3, h4, h5, h6⟩ := hc.choose_spec
    simp only [Option.some.injEq, Prod.mk.injEq] at hg
    obtain ⟨rfl, rfl⟩ := hg
    have := h hc.choose.1 hc.choose.2 _ h1 h2 h3 h4
    rw [← falA, ← h5, ← h6] at this
    exact this
  · cases hg
theorem gFal_eq {x : Sx} {sT sS : TV} {l : List Tr} {s : TV} {m : Nat} {S o : List Nat} {many : Nat} (h1 : S.length + m = many) (h2 : 1 ≤ many) (h3 : many ≤ l.length) (h4 : ∀ i ∈ S, i < l.length) :
    gFal x sT sS l s m (falA S many) (choO x sT sS s o) = some (.t (.bool (cho l.length (badC x l) m S (frO S) o).1), choO x sT sS s (cho l.length (badC x l) m S (frO S) o).2) := by
  unfold gFal
  have hc : ∃ So : List Nat × List Nat, ∃ many' : Nat, So.1.length + m = many' ∧ 1 ≤ many' ∧ many' ≤ l.length ∧ (∀ i ∈ So.1, i < l.length) ∧ falA S many = falA So.1 many' ∧ choO x sT sS s o = choO x sT sS s So.2 := ⟨(S, o), many, h1, h2, h3, h4, rfl, rfl⟩
  rw [dif_pos hc]
  obtain ⟨_, _, _, _, _, e5, e6⟩ := hc.choose_spec
  have eS : hc.choose.1 = S := (rowI_inj (PV.t.inj (List.cons.inj e5).1)).symm
  have eo : hc.choose.2 = o := by
    have := congrArg (fun hl : List PO => hl[1]?) e6
    have := PO.box.inj (Option.some.inj this)
    exact (rowI_inj (PV.t.inj (List.cons.inj this).1)).symm
  rw [eS, eo]
theorem false_succ (x : Sx) {sT sS : TV} {l : List Tr} (g : Bool) (h8 : l.length ≤ 8) {m : Nat} (ih : FalseC x sT sS l (.sl (l.flatMap Tr.cs) l.length g) m) : FalseC x sT sS l (.sl (l.flatMap Tr.cs) l.length g) (m + 1) := by
  intro S o many hm h1 hml hS'
  have hSl : S.length < many := by omega
  have hb : ((S.length : Int) == (many : Int)) = false := beq_int_f (by omega)
  have hgt : 0 < S.length → (S.length : Int) > 0 := fun _ => by omega
  refine hcalls_by Try.mixes (Spec.oneH_ok (gFal_ok ih) spOa_ok) (fn := Try.f82) Try.func82 rfl (by kernel_rfl) (by show 6 ≤ _; decide) ?_
  have hfold : cho l.length (badC x l) (m + 1) S (frO S) o = choTo l.length (badC x l) m S (frO S) o (l.length - frO S) := cho_succ ..
  rcases Nat.eq_zero_or_pos S.length with hS0 | hS0
  · have hSn : S = [] := List.length_eq_zero_iff.1 hS0
    have hrow : rowI (nI S) = .nilSl := by rw [hSn]; rfl
    have hb' : ((0 : Int) == (many : Int)) = false := beq_int_f (by omega)
    obtain ⟨F, hF⟩ : ∃ F : Nat, 0 = F := ⟨_, rfl⟩
    have hfr : frO S = F := by rw [hSn]; exact hF
    rw [hfr] at hfold ⊢
    rw [hrow]
    simp (decide := true) (maxSteps := 4000000) only [go_sem, Nat.reduceAdd, Nat.reduceSub, Nat.reduceMul, Nat.reduceDiv, Nat.reduceMod, Nat.reduceLT, Nat.reduceLeDiff, Nat.reduceEqDiff, Nat.reduceBEq, Nat.reduceBNe, Nat.reduceGT, Int.reduceAdd, Int.reduceSub, Int.reduceMul, Int.reduceNeg, Int.reduceLT, Int.reduceLE, Int.reduceEq, Int.reduceNe, Int.reduceBEq, Int.reduceBNe, Int.reduceToNat, Int.reduceGT, Int.reduceGE, ↓reduceIte, decide_true, decide_false, eq_self, Nat.mul_one, Nat.zero_mul, Nat.one_mul, Int.le_refl, Nat.le_refl, Int.cast_ofNat_Int, Try.f82, choO, Sx.cs, hb']
    refine pwpC_loopU (A := { j : Nat // F + j ≤ l.length ∧ (choTo l.length (badC x l) m S F o j).1 = false }) [0, 1, 2, 3, 4, 5] (fun j => [(13, .t (.int .i64 ((F + j.1 : Nat) : Int)))]) (fun j => [(1, .box [.t (rowI (nI (choTo l.length (badC x l) m S F o j.1).2))])]) (fun j => l.length - (F + j.1)) ⟨0, by omega, rfl⟩ (by decide) (fun _ => by rfl) ?_ fun Q1 hQ1 ⟨j, hj, hjf⟩ I1 hI1 => ?_
    · simp (decide := true) (maxSteps := 4000000) only [go_sem, Nat.reduceAdd, Nat.reduceSub, Nat.reduceMul, Nat.reduceDiv, Nat.reduceMod, Nat.reduceLT, Nat.reduceLeDiff, Nat.reduceEqDiff, Nat.reduceBEq, Nat.reduceBNe, Nat.reduceGT, Int.reduceAdd, Int.reduceSub, Int.reduceMul, Int.reduceNeg, Int.reduceLT, Int.reduceLE, Int.reduceEq, Int.reduceNe, Int.reduceBEq, Int.reduceBNe, Int.reduceToNat, Int.reduceGT, Int.reduceGE, ↓reduceIte, decide_true, decide_false, eq_self, Nat.mul_one, Nat.zero_mul, Nat.one_mul, Int.le_refl, Nat.le_refl, Int.cast_ofNat_Int, choTo, List.range', List.foldl_nil, Nat.add_zero, ← hF]
    · by_cases hlt : ((F + j : Nat) : Int) < l.length
      · have hc1 : IntKind.i64.wrap (((F + j : Nat) : Int) + 1) = ((F + j + 1 : Nat) : Int) := by rw [wrap_in (by omega) (by omega)]; omega
        have hSi : ∀ y ∈ S ++ [F + j], y < l.length := fun y hy => by
          rcases List.mem_append.1 hy with hy | hy
          · exact hS' y hy
          · have := List.mem_singleton.1 hy; omega
        have hG := gFal_eq (x := x) (sT := sT) (sS := sS) (s := .sl (l.flatMap Tr.cs) l.length g) (m := m) (S := S ++ [F + j]) (o := (choTo l.length (badC x l) m S F o j).2) (many := many) (by rw [List.length_append, List.length_singleton]; omega) h1 hml hSi
        rw [frO_snoc] at hG
        have hnx := choTo_succ hjf
        have hrw : rowI (nI (S ++ [F + j])) = .sl [.int .i64 ((F + j : Nat) : Int)] 1 false := by rw [hSn]; rfl
        unfold falA choO at hG
        rw [hrw] at hG
        simp only [Sx.cs, List.map_cons, List.map_nil] at hG
        have hil : (ints (nI S)).length = S.length := by rw [ints_len, nI_len]
        have htk : List.take S.length (ints (nI S)) = ints (nI S) := List.take_of_length_le (by omega)
        have hr : (S.length + 1) * 8 ≤ 140737488355328 := by omega
        obtain ⟨R, hR⟩ : ∃ R, cho l.length (badC x l) m (S ++ [F + j]) (F + j + 1) (choTo l.length (badC x l) m S F o j).2 = R := ⟨_, rfl⟩
        rw [hR] at hG hnx
        cases hb : R.1 with
        | true =>
          have hst := choTo_stop (n := l.length) (bad := badC x l) (m := m) (S := S) (fr := F) (o := o) (j := j + 1) (by rw [hnx]; exact hb) (l.length - F - (j + 1))
          rw [show j + 1 + (l.length - F - (j + 1)) = l.length - F by omega, hnx] at hst
          simp (decide := true) (maxSteps := 4000000) only [go_sem, Nat.reduceAdd, Nat.reduceSub, Nat.reduceMul, Nat.reduceDiv, Nat.reduceMod, Nat.reduceLT, Nat.reduceLeDiff, Nat.reduceEqDiff, Nat.reduceBEq, Nat.reduceBNe, Nat.reduceGT, Int.reduceAdd, Int.reduceSub, Int.reduceMul, Int.reduceNeg, Int.reduceLT, Int.reduceLE, Int.reduceEq, Int.reduceNe, Int.reduceBEq, Int.reduceBNe, Int.reduceToNat, Int.reduceGT, Int.reduceGE, ↓reduceIte, decide_true, decide_false, eq_self, Nat.mul_one, Nat.zero_mul, Nat.one_mul, Int.le_refl, Nat.le_refl, Int.cast_ofNat_Int, hlt, Sx.cs, hil, htk, hr, Int.toNat_natCast, sliceG, Option.isSome_some, Nat.sub_zero, List.drop_zero, hG, hb, allO_snocT]
          refine hQ1 _ _ ?_
          simp (decide := true) (maxSteps := 4000000) only [go_sem, Nat.reduceAdd, Nat.reduceSub, Nat.reduceMul, Nat.reduceDiv, Nat.reduceMod, Nat.reduceLT, Nat.reduceLeDiff, Nat.reduceEqDiff, Nat.reduceBEq, Nat.reduceBNe, Nat.reduceGT, Int.reduceAdd, Int.reduceSub, Int.reduceMul, Int.reduceNeg, Int.reduceLT, Int.reduceLE, Int.reduceEq, Int.reduceNe, Int.reduceBEq, Int.reduceBNe, Int.reduceToNat, Int.reduceGT, Int.reduceGE, ↓reduceIte, decide_true, decide_false, eq_self, Nat.mul_one, Nat.zero_mul, Nat.one_mul, Int.le_refl, Nat.le_refl, Int.cast_ofNat_Int, hfold, hst, hb]
          exact ⟨_, rfl, rfl⟩
        | false =>
          simp (decide := true) (maxSteps := 4000000) only [go_sem, Nat.reduceAdd, Nat.reduceSub, Nat.reduceMul, Nat.reduceDiv, Nat.reduceMod, Nat.reduceLT, Nat.reduceLeDiff, Nat.reduceEqDiff, Nat.reduceBEq, Nat.reduceBNe, Nat.reduceGT, Int.reduceAdd, Int.reduceSub, Int.reduceMul, Int.reduceNeg, Int.reduceLT, Int.reduceLE, Int.reduceEq, Int.reduceNe, Int.reduceBEq, Int.reduceBNe, Int.reduceToNat, Int.reduceGT, Int.reduceGE, ↓reduceIte, decide_true, decide_false, eq_self, Nat.mul_one, Nat.zero_mul, Nat.one_mul, Int.le_refl, Nat.le_refl, Int.cast_ofNat_Int, hlt, Sx.cs, hil, htk, hr, Int.toNat_natCast, sliceG, Option.isSome_some, Nat.sub_zero, List.drop_zero, hG, hb, allO_snocT]
          refine hI1 _ ⟨j + 1, by omega, by rw [hnx]; exact hb⟩ (by simp only; omega) ?_
          simp (decide := true) (maxSteps := 4000000) only [go_sem, Nat.reduceAdd, Nat.reduceSub, Nat.reduceMul, Nat.reduceDiv, Nat.reduceMod, Nat.reduceLT, Nat.reduceLeDiff, Nat.reduceEqDiff, Nat.reduceBEq, Nat.reduceBNe, Nat.reduceGT, Int.reduceAdd, Int.reduceSub, Int.reduceMul, Int.reduceNeg, Int.reduceLT, Int.reduceLE, Int.reduceEq, Int.reduceNe, Int.reduceBEq, Int.reduceBNe, Int.reduceToNat, Int.reduceGT, Int.reduceGE, ↓reduceIte, decide_true, decide_false, eq_self, Nat.mul_one, Nat.zero_mul, Nat.one_mul, Int.le_refl, Nat.le_refl, Int.cast_ofNat_Int, hc1, hnx, Nat.add_assoc]
      · have hje : j = l.length - F := by omega
        simp (decide := true) (maxSteps := 4000000) only [go_sem, Nat.reduceAdd, Nat.reduceSub, Nat.reduceMul, Nat.reduceDiv, Nat.reduceMod, Nat.reduceLT, Nat.reduceLeDiff, Nat.reduceEqDiff, Nat.reduceBEq, Nat.reduceBNe, Nat.reduceGT, Int.reduceAdd, Int.reduceSub, Int.reduceMul, Int.reduceNeg, Int.reduceLT, Int.reduceLE, Int.reduceEq, Int.reduceNe, Int.reduceBEq, Int.reduceBNe, Int.reduceToNat, Int.reduceGT, Int.reduceGE, ↓reduceIte, decide_true, decide_false, eq_self, Nat.mul_one, Nat.zero_mul, Nat.one_mul, Int.le_refl, Nat.le_refl, Int.cast_ofNat_Int, hlt]
        refine hQ1 _ _ ?_
        rw [hje] at hjf
        simp (decide := true) (maxSteps := 4000000) only [go_sem, Nat.reduceAdd, Nat.reduceSub, Nat.reduceMul, Nat.reduceDiv, Nat.reduceMod, Nat.reduceLT, Nat.reduceLeDiff, Nat.reduceEqDiff, Nat.reduceBEq, Nat.reduceBNe, Nat.reduceGT, Int.reduceAdd, Int.reduceSub, Int.reduceMul, Int.reduceNeg, Int.reduceLT, Int.reduceLE, Int.reduceEq, Int.reduceNe, Int.reduceBEq, Int.reduceBNe, Int.reduceToNat, Int.reduceGT, Int.reduceGE, ↓reduceIte, decide_true, decide_false, eq_self, Nat.mul_one, Nat.zero_mul, Nat.one_mul, Int.le_refl, Nat.le_refl, Int.cast_ofNat_Int, hje, hfold, hjf]
        exact ⟨_, rfl, rfl⟩
  · have hrow : rowI (nI S) = .sl (ints (nI S)) S.length false := by rw [rowI_ne (by rw [nI_len]; omega), nI_len]
    obtain ⟨i, hi⟩ : ∃ i, S[S.length - 1]? = some i := ⟨_, List.getElem?_eq_getElem (by omega)⟩
    have hd := ints_at hi
    have hil0 := hS' i (List.mem_of_getElem? hi)
    have hc1 : IntKind.i64.wrap ((S.length : Int) - 1) = ((S.length - 1 : Nat) : Int) := by rw [wrap_in (by omega) (by omega)]; omega
    have hc2 : IntKind.i64.wrap ((i : Int) + 1) = ((i + 1 : Nat) : Int) := by rw [wrap_in (by omega) (by omega)]; omega
    have hlt : ((S.length - 1 : Nat) : Int) < S.length := by omega
    have hfr : frO S = i + 1 := by unfold frO; rw [List.getLast?_eq_getElem?, hi]
    rw [hfr] at hfold ⊢
    obtain ⟨F, hF⟩ : ∃ F, i + 1 = F := ⟨_, rfl⟩
    rw [hF] at hfold hc2 ⊢
    rw [hrow]
    simp (decide := true) (maxSteps := 4000000) only [go_sem, Nat.reduceAdd, Nat.reduceSub, Nat.reduceMul, Nat.reduceDiv, Nat.reduceMod, Nat.reduceLT, Nat.reduceLeDiff, Nat.reduceEqDiff, Nat.reduceBEq, Nat.reduceBNe, Nat.reduceGT, Int.reduceAdd, Int.reduceSub, Int.reduceMul, Int.reduceNeg, Int.reduceLT, Int.reduceLE, Int.reduceEq, Int.reduceNe, Int.reduceBEq, Int.reduceBNe, Int.reduceToNat, Int.reduceGT, Int.reduceGE, ↓reduceIte, decide_true, decide_false, eq_self, Nat.mul_one, Nat.zero_mul, Nat.one_mul, Int.le_refl, Nat.le_refl, Int.cast_ofNat_Int, Try.f82, choO, Sx.cs, hb, hgt hS0, hc1, hd, hc2, hlt, Int.toNat_natCast]
    refine pwpC_loopU (A := { j : Nat // F + j ≤ l.length ∧ (choTo l.length (badC x l) m S F o j).1 = false }) [0, 1, 2, 3, 4, 5] (fun j => [(13, .t (.int .i64 ((F + j.1 : Nat) : Int)))]) (fun j => [(1, .box [.t (rowI (nI (choTo l.length (badC x l) m S F o j.1).2))])]) (fun j => l.length - (F + j.1)) ⟨0, by omega, rfl⟩ (by decide) (fun _ => by rfl) ?_ fun Q1 hQ1 ⟨j, hj, hjf⟩ I1 hI1 => ?_
    · simp (decide := true) (maxSteps := 4000000) only [go_sem, Nat.reduceAdd, Nat.reduceSub, Nat.reduceMul, Nat.reduceDiv, Nat.reduceMod, Nat.reduceLT, Nat.reduceLeDiff, Nat.reduceEqDiff, Nat.reduceBEq, Nat.reduceBNe, Nat.reduceGT, Int.reduceAdd, Int.reduceSub, Int.reduceMul, Int.reduceNeg, Int.reduceLT, Int.reduceLE, Int.reduceEq, Int.reduceNe, Int.reduceBEq, Int.reduceBNe, Int.reduceToNat, Int.reduceGT, Int.reduceGE, ↓reduceIte, decide_true, decide_false, eq_self, Nat.mul_one, Nat.zero_mul, Nat.one_mul, Int.le_refl, Nat.le_refl, Int.cast_ofNat_Int, choTo, List.range', List.foldl_nil, Nat.add_zero]
    · by_cases hlt : ((F + j : Nat) : Int) < l.length
      · have hc1 : IntKind.i64.wrap (((F + j : Nat) : Int) + 1) = ((F + j + 1 : Nat) : Int) := by rw [wrap_in (by omega) (by omega)]; omega
        have hSi : ∀ y ∈ S ++ [F + j], y < l.length := fun y hy => by
          rcases List.mem_append.1 hy with hy | hy
          · exact hS' y hy
          · have := List.mem_singleton.1 hy; omega
        have hG := gFal_eq (x := x) (sT := sT) (sS := sS) (s := .sl (l.flatMap Tr.cs) l.length g) (m := m) (S := S ++ [F + j]) (o := (choTo l.length (badC x l) m S F o j).2) (many := many) (by rw [List.length_append, List.length_singleton]; omega) h1 hml hSi
        rw [frO_snoc] at hG
        have hnx := choTo_succ hjf
        have hrw : rowI (nI (S ++ [F + j])) = .sl (ints (nI S) ++ [.int .i64 ((F + j : Nat) : Int)]) (S.length + 1) false := by
          rw [rowI_ne (by rw [nI_len]; simp), nI_len, nI_snoc, ints_snoc, List.length_append]; rfl
        unfold falA choO at hG
        rw [hrw] at hG
        simp only [Sx.cs, List.map_cons, List.map_nil] at hG
        have hil : (ints (nI S)).length = S.length := by rw [ints_len, nI_len]
        have htk : List.take S.length (ints (nI S)) = ints (nI S) := List.take_of_length_le (by omega)
        have hr : (S.length + 1) * 8 ≤ 140737488355328 := by omega
        obtain ⟨R, hR⟩ : ∃ R, cho l.length (badC x l) m (S ++ [F + j]) (F + j + 1) (choTo l.length (badC x l) m S F o j).2 = R := ⟨_, rfl⟩
        rw [hR] at hG hnx
        cases hb : R.1 with
        | true =>
          have hst := choTo_stop (n := l.length) (bad := badC x l) (m := m) (S := S) (fr := F) (o := o) (j := j + 1) (by rw [hnx]; exact hb) (l.length - F - (j + 1))
          rw [show j + 1 + (l.length - F - (j + 1)) = l.length - F by omega, hnx] at hst
          simp (decide := true) (maxSteps := 4000000) only [go_sem, Nat.reduceAdd, Nat.reduceSub, Nat.reduceMul, Nat.reduceDiv, Nat.reduceMod, Nat.reduceLT, Nat.reduceLeDiff, Nat.reduceEqDiff, Nat.reduceBEq, Nat.reduceBNe, Nat.reduceGT, Int.reduceAdd, Int.reduceSub, Int.reduceMul, Int.reduceNeg, Int.reduceLT, Int.reduceLE, Int.reduceEq, Int.reduceNe, Int.reduceBEq, Int.reduceBNe, Int.reduceToNat, Int.reduceGT, Int.reduceGE, ↓reduceIte, decide_true, decide_false, eq_self, Nat.mul_one, Nat.zero_mul, Nat.one_mul, Int.le_refl, Nat.le_refl, Int.cast_ofNat_Int, hlt, Sx.cs, hil, htk, hr, Int.toNat_natCast, sliceG, Option.isSome_some, Nat.sub_zero, List.drop_zero, hG, hb, allO_snocT]
          refine hQ1 _ _ ?_
          simp (decide := true) (maxSteps := 4000000) only [go_sem, Nat.reduceAdd, Nat.reduceSub, Nat.reduceMul, Nat.reduceDiv, Nat.reduceMod, Nat.reduceLT, Nat.reduceLeDiff, Nat.reduceEqDiff, Nat.reduceBEq, Nat.reduceBNe, Nat.reduceGT, Int.reduceAdd, Int.reduceSub, Int.reduceMul, Int.reduceNeg, Int.reduceLT, Int.reduceLE, Int.reduceEq, Int.reduceNe, Int.reduceBEq, Int.reduceBNe, Int.reduceToNat, Int.reduceGT, Int.reduceGE, ↓reduceIte, decide_true, decide_false, eq_self, Nat.mul_one, Nat.zero_mul, Nat.one_mul, Int.le_refl, Nat.le_refl, Int.cast_ofNat_Int, hfold, hst, hb]
          exact ⟨_, rfl, rfl⟩
        | false =>
          simp (decide := true) (maxSteps := 4000000) only [go_sem, Nat.reduceAdd, Nat.reduceSub, Nat.reduceMul, Nat.reduceDiv, Nat.reduceMod, Nat.reduceLT, Nat.reduceLeDiff, Nat.reduceEqDiff, Nat.reduceBEq, Nat.reduceBNe, Nat.reduceGT, Int.reduceAdd, Int.reduceSub, Int.reduceMul, Int.reduceNeg, Int.reduceLT, Int.reduceLE, Int.reduceEq, Int.reduceNe, Int.reduceBEq, Int.reduceBNe, Int.reduceToNat, Int.reduceGT, Int.reduceGE, ↓reduceIte, decide_true, decide_false, eq_self, Nat.mul_one, Nat.zero_mul, Nat.one_mul, Int.le_refl, Nat.le_refl, Int.cast_ofNat_Int, hlt, Sx.cs, hil, htk, hr, Int.toNat_natCast, sliceG, Option.isSome_some, Nat.sub_zero, List.drop_zero, hG, hb, allO_snocT]
          refine hI1 _ ⟨j + 1, by omega, by rw [hnx]; exact hb⟩ (by simp only; omega) ?_
          simp (decide := true) (maxSteps := 4000000) only [go_sem, Nat.reduceAdd, Nat.reduceSub, Nat.reduceMul, Nat.reduceDiv, Nat.reduceMod, Nat.reduceLT, Nat.reduceLeDiff, Nat.reduceEqDiff, Nat.reduceBEq, Nat.reduceBNe, Nat.reduceGT, Int.reduceAdd, Int.reduceSub, Int.reduceMul, Int.reduceNeg, Int.reduceLT, Int.reduceLE, Int.reduceEq, Int.reduceNe, Int.reduceBEq, Int.reduceBNe, Int.reduceToNat, Int.reduceGT, Int.reduceGE, ↓reduceIte, decide_true, decide_false, eq_self, Nat.mul_one, Nat.zero_mul, Nat.one_mul, Int.le_refl, Nat.le_refl, Int.cast_ofNat_Int, hc1, hnx, Nat.add_assoc]
      · have hje : j = l.length - F := by omega
        simp (decide := true) (maxSteps := 4000000) only [go_sem, Nat.reduceAdd, Nat.reduceSub, Nat.reduceMul, Nat.reduceDiv, Nat.reduceMod, Nat.reduceLT, Nat.reduceLeDiff, Nat.reduceEqDiff, Nat.reduceBEq, Nat.reduceBNe, Nat.reduceGT, Int.reduceAdd, Int.reduceSub, Int.reduceMul, Int.reduceNeg, Int.reduceLT, Int.reduceLE, Int.reduceEq, Int.reduceNe, Int.reduceBEq, Int.reduceBNe, Int.reduceToNat, Int.reduceGT, Int.reduceGE, ↓reduceIte, decide_true, decide_false, eq_self, Nat.mul_one, Nat.zero_mul, Nat.one_mul, Int.le_refl, Nat.le_refl, Int.cast_ofNat_Int, hlt]
        refine hQ1 _ _ ?_
        rw [hje] at hjf
        simp (decide := true) (maxSteps := 4000000) only [go_sem, Nat.reduceAdd, Nat.reduceSub, Nat.reduceMul, Nat.reduceDiv, Nat.reduceMod, Nat.reduceLT, Nat.reduceLeDiff, Nat.reduceEqDiff, Nat.reduceBEq, Nat.reduceBNe, Nat.reduceGT, Int.reduceAdd, Int.reduceSub, Int.reduceMul, Int.reduceNeg, Int.reduceLT, Int.reduceLE, Int.reduceEq, Int.reduceNe, Int.reduceBEq, Int.reduceBNe, Int.reduceToNat, Int.reduceGT, Int.reduceGE, ↓reduceIte, decide_true, decide_false, eq_self, Nat.mul_one, Nat.zero_mul, Nat.one_mul, Int.le_refl, Nat.le_refl, Int.cast_ofNat_Int, hje, hfold, hjf]
        exact ⟨_, rfl, rfl⟩
theorem false_all (x : Sx) {sT sS : TV} (hT : IsRow Span.cs sT x.tab) (hS : IsRow Span.cs sS x.shade) (hv : sxOk x = true) {l : List Tr} (g : Bool) (hl : l.all (trB x) = true) (h8 : l.length ≤ 8) : ∀ m, FalseC x sT sS l (.sl (l.flatMap Tr.cs) l.length g) m
  | 0 => false_zero x hT hS hv g hl h8
  | m + 1 => false_succ x g h8 (false_all x hT hS hv g hl h8 m)
end Go.Proofs.Ytjmkccckohcfkaa

/- Part Sp. -/
namespace Go.Os
open Go Go.Pm Go.Oc Go.Oh
/-- What False returns. -/
def falseP (x : Sx) (l : List Tr) : List Nat × Int :=
  if openedE x l = 0 then (if canB x l then ([], 4) else ((falT l.length (badC x l) l.length).2, 0)) else ([], openedE x l)
end Go.Os
namespace Go.Proofs.Ytjmkccckohcfkaa
open Go.RowKit Go.Pm Go.Oc Go.Oh Go.Os
set_option maxRecDepth 100000
set_option linter.unusedVariables false
set_option maxHeartbeats 8000000

noncomputable def gFalA (x : Sx) (sT sS : TV) (l : List Tr) (s : TV) : List PV → List PO → Option (PV × List PO)
  | [a, .t (.int .i64 mm), b, c, d, e], hl => gFal x sT sS l s mm.toNat [a, .t (.int .i64 mm), b, c, d, e] hl
  | _, _ => none
theorem gFalA_ok {x : Sx} {sT sS : TV} {l : List Tr} {s : TV} (h : ∀ m, FalseC x sT sS l s m) : ∀ xs hl r hl', gFalA x sT sS l s xs hl = some (r, hl') → HCalls Try.prog 82 xs (getL hl) r (getL hl') := by
  intro xs hl r hl' hg
  unfold gFalA at hg
  split at hg
  · exact gFal_ok (h _) _ _ _ _ hg
  · cases hg
noncomputable def spPa : Pm.Spec := spOa.one 75 sxOpened
@[go_sem] theorem spPa_p (f : FuncId) (xs : List TV) : spPa.p f xs = Pm.Spec.p (spOa.one 75 sxOpened) f xs := rfl
@[go_sem] theorem spPa_h (f : FuncId) (ps : List PV) (hl : List PO) : spPa.h f ps hl = Pm.Spec.h (spOa.one 75 sxOpened) f ps hl := rfl
@[go_sem] theorem spPa_fz (f : FuncId) : spPa.fz f = Pm.Spec.fz (spOa.one 75 sxOpened) f := rfl
@[go_sem] theorem spPa_fr (f : FuncId) : spPa.fr f = Pm.Spec.fr (spOa.one 75 sxOpened) f := rfl
@[go_sem] theorem spPa_mu (t : TypeId) : spPa.mu t = Pm.Spec.mu (spOa.one 75 sxOpened) t := rfl
@[go_sem] theorem spPa_nf (t : TypeId) : spPa.nf t = Pm.Spec.nf (spOa.one 75 sxOpened) t := rfl
theorem spPa_ok : SpecOk Try.prog spPa := Spec.one_ok sxOpened_ok spOa_ok
theorem sFalse_c (x : Sx) {sT sS : TV} (hT : IsRow Span.cs sT x.tab) (hS : IsRow Span.cs sS x.shade) (lT : x.tab.length ≤ 9000000000000) (lS : x.shade.length ≤ 9000000000000) {l : List Tr} {s : TV} (hs : IsRow Tr.cs s l) (ll : l.length ≤ 9000000000000) :
    PCalls Try.prog 27 [x.t sT sS, s] (.tup [rowI (nI (falseP x l).1), .int .i64 (falseP x l).2]) := by
  have rT := rowS_is hT
  have rS := rowS_is hS
  have rs := rowTr_is hs
  unfold rowL at rT rS rs
  simp only [unS_nil] at rT rS
  simp only [unTr_nil] at rs
  have e0 : Sx.mk x.step x.tab ⟨x.idx.lo, x.idx.hi⟩ x.wrong x.shade = x := rfl
  unfold falseP
  cases hv : sxOk x with
  | false =>
    have hE : openedE x l = 50 := by unfold openedE; rw [hv]; rfl
    have hO : openedT x sT sS = .agg [.int .i64 0, .nilSl, .int .i64 0, .int .i64 0, .int .i64 0, .nilSl] := by unfold openedT; rw [hv]; rfl
    have b : ((50 : Int) != 0) = true := rfl
    refine pcalls_by Try.mixes spPa_ok (fn := Try.f27) Try.func27 rfl (by kernel_rfl) (by show 2 ≤ _; decide) ?_
    rcases hs with ⟨rfl, rfl⟩ | ⟨g, rfl⟩ <;> simp (decide := true) (maxSteps := 4000000) only [go_sem, Nat.reduceAdd, Nat.reduceSub, Nat.reduceMul, Nat.reduceDiv, Nat.reduceMod, Nat.reduceLT, Nat.reduceLeDiff, Nat.reduceEqDiff, Nat.reduceBEq, Nat.reduceBNe, Nat.reduceGT, Int.reduceAdd, Int.reduceSub, Int.reduceMul, Int.reduceNeg, Int.reduceLT, Int.reduceLE, Int.reduceEq, Int.reduceNe, Int.reduceBEq, Int.reduceBNe, Int.reduceToNat, Int.reduceGT, Int.reduceGE, ↓reduceIte, decide_true, decide_false, eq_self, Nat.mul_one, Nat.zero_mul, Nat.one_mul, Int.le_refl, Nat.le_refl, Int.cast_ofNat_Int, Try.f27, Sx.t, Sx.cs, rT, rS, unTr_eq, unTr_nil, lT, lS, ll, e0, hE, hO, b, rowI, nI, List.map_nil, List.length_nil]
  | true =>
    have hO : openedT x sT sS = x.t sT sS := by unfold openedT; rw [hv]; rfl
    cases htr : trsOk x l with
    | false =>
      have hE : openedE x l = 53 := by unfold openedE; rw [hv, htr]; rfl
      have b : ((53 : Int) != 0) = true := rfl
      refine pcalls_by Try.mixes spPa_ok (fn := Try.f27) Try.func27 rfl (by kernel_rfl) (by show 2 ≤ _; decide) ?_
      rcases hs with ⟨rfl, rfl⟩ | ⟨g, rfl⟩ <;> simp (decide := true) (maxSteps := 4000000) only [go_sem, Nat.reduceAdd, Nat.reduceSub, Nat.reduceMul, Nat.reduceDiv, Nat.reduceMod, Nat.reduceLT, Nat.reduceLeDiff, Nat.reduceEqDiff, Nat.reduceBEq, Nat.reduceBNe, Nat.reduceGT, Int.reduceAdd, Int.reduceSub, Int.reduceMul, Int.reduceNeg, Int.reduceLT, Int.reduceLE, Int.reduceEq, Int.reduceNe, Int.reduceBEq, Int.reduceBNe, Int.reduceToNat, Int.reduceGT, Int.reduceGE, ↓reduceIte, decide_true, decide_false, eq_self, Nat.mul_one, Nat.zero_mul, Nat.one_mul, Int.le_refl, Nat.le_refl, Int.cast_ofNat_Int, Try.f27, Sx.t, Sx.cs, rT, rS, unTr_eq, unTr_nil, lT, lS, ll, e0, hE, hO, b, rowI, nI, List.map_nil, List.length_nil]
    | true =>
      have hE : openedE x l = 0 := by unfold openedE; rw [hv, htr]; rfl
      have b : ((0 : Int) != 0) = false := rfl
      have h := sxOk_iff.1 hv
      have htr' := htr
      unfold trsOk at htr'
      rw [Bool.and_eq_true, inB_iff] at htr'
      have hl := htr'.2
      have h8 : l.length ≤ 8 := by omega
      obtain ⟨g, rfl⟩ := hs.ne (by omega)
      have rs := unTr_eq l
      have hA := gFalA_ok (false_all x hT hS hv g hl h8)
      cases hcb : canB x l with
      | true =>
        refine pcalls_by Try.mixes spPa_ok (fn := Try.f27) Try.func27 rfl (by kernel_rfl) (by show 2 ≤ _; decide) ?_
        simp (decide := true) (maxSteps := 4000000) only [go_sem, Nat.reduceAdd, Nat.reduceSub, Nat.reduceMul, Nat.reduceDiv, Nat.reduceMod, Nat.reduceLT, Nat.reduceLeDiff, Nat.reduceEqDiff, Nat.reduceBEq, Nat.reduceBNe, Nat.reduceGT, Int.reduceAdd, Int.reduceSub, Int.reduceMul, Int.reduceNeg, Int.reduceLT, Int.reduceLE, Int.reduceEq, Int.reduceNe, Int.reduceBEq, Int.reduceBNe, Int.reduceToNat, Int.reduceGT, Int.reduceGE, ↓reduceIte, decide_true, decide_false, eq_self, Nat.mul_one, Nat.zero_mul, Nat.one_mul, Int.le_refl, Nat.le_refl, Int.cast_ofNat_Int, Try.f27, Sx.t, Sx.cs, rT, rS, rs, lT, lS, ll, e0, hE, hO, b, hv, hl, h8, hcb, rowI, nI, List.map_nil, List.length_nil]
      | false =>
        refine pcalls_by Try.mixes (Spec.oneH_ok hA spPa_ok) (fn := Try.f27) Try.func27 rfl (by kernel_rfl) (by show 2 ≤ _; decide) ?_
        simp (decide := true) (maxSteps := 4000000) only [go_sem, Nat.reduceAdd, Nat.reduceSub, Nat.reduceMul, Nat.reduceDiv, Nat.reduceMod, Nat.reduceLT, Nat.reduceLeDiff, Nat.reduceEqDiff, Nat.reduceBEq, Nat.reduceBNe, Nat.reduceGT, Int.reduceAdd, Int.reduceSub, Int.reduceMul, Int.reduceNeg, Int.reduceLT, Int.reduceLE, Int.reduceEq, Int.reduceNe, Int.reduceBEq, Int.reduceBNe, Int.reduceToNat, Int.reduceGT, Int.reduceGE, ↓reduceIte, decide_true, decide_false, eq_self, Nat.mul_one, Nat.zero_mul, Nat.one_mul, Int.le_refl, Nat.le_refl, Int.cast_ofNat_Int, Try.f27, Sx.t, Sx.cs, rT, rS, rs, lT, lS, ll, e0, hE, hO, b, hv, hl, h8, hcb]
        refine pwpC_loopU (A := { k : Nat // k ≤ l.length ∧ (falT l.length (badC x l) k).1 = false }) [8, 9, 24, 25] (fun k => [(26, .t (.int .i64 k.1))]) (fun k => [(3, .box [.t (rowI (nI (falT l.length (badC x l) k.1).2))])]) (fun k => l.length - k.1) ⟨0, by omega, rfl⟩ (by decide) (fun _ => by rfl) ?_ fun Q1 hQ1 ⟨k, hk, hkf⟩ I1 hI1 => ?_
        · simp (decide := true) (maxSteps := 4000000) only [go_sem, Nat.reduceAdd, Nat.reduceSub, Nat.reduceMul, Nat.reduceDiv, Nat.reduceMod, Nat.reduceLT, Nat.reduceLeDiff, Nat.reduceEqDiff, Nat.reduceBEq, Nat.reduceBNe, Nat.reduceGT, Int.reduceAdd, Int.reduceSub, Int.reduceMul, Int.reduceNeg, Int.reduceLT, Int.reduceLE, Int.reduceEq, Int.reduceNe, Int.reduceBEq, Int.reduceBNe, Int.reduceToNat, Int.reduceGT, Int.reduceGE, ↓reduceIte, decide_true, decide_false, eq_self, Nat.mul_one, Nat.zero_mul, Nat.one_mul, Int.le_refl, Nat.le_refl, Int.cast_ofNat_Int, falT, rowI, nI, List.map_nil, List.length_nil]
        · by_cases hlt : (k : Int) < l.length
          · have hc1 : IntKind.i64.wrap (k + 1) = ((k + 1 : Nat) : Int) := by rw [wrap_in (by omega) (by omega)]; omega
            have hG := gFal_eq (x := x) (sT := sT) (sS := sS) (l := l) (s := .sl (l.flatMap Tr.cs) l.length g) (m := k + 1) (S := []) (o := (falT l.length (badC x l) k).2) (many := k + 1) (by simp) (by omega) (by omega) (fun y hy => by cases hy)
            have hnx := falT_next hkf
            rw [show frO [] = 0 from rfl, ← hnx] at hG
            unfold falA choO at hG
            rw [show rowI (nI []) = .nilSl from rfl] at hG
            simp only [Sx.cs, List.map_cons, List.map_nil] at hG
            obtain ⟨R, hR⟩ : ∃ R, falT l.length (badC x l) (k + 1) = R := ⟨_, rfl⟩
            have hst := fun hb => falT_stop (n := l.length) (bad := badC x l) (k := k + 1) hb (l.length - (k + 1))
            rw [show k + 1 + (l.length - (k + 1)) = l.length by omega, hR] at hst
            rw [hR] at hG
            cases hb : R.1 with
            | true =>
              have hst' := hst hb
              simp (decide := true) (maxSteps := 4000000) only [go_sem, Nat.reduceAdd, Nat.reduceSub, Nat.reduceMul, Nat.reduceDiv, Nat.reduceMod, Nat.reduceLT, Nat.reduceLeDiff, Nat.reduceEqDiff, Nat.reduceBEq, Nat.reduceBNe, Nat.reduceGT, Int.reduceAdd, Int.reduceSub, Int.reduceMul, Int.reduceNeg, Int.reduceLT, Int.reduceLE, Int.reduceEq, Int.reduceNe, Int.reduceBEq, Int.reduceBNe, Int.reduceToNat, Int.reduceGT, Int.reduceGE, ↓reduceIte, decide_true, decide_false, eq_self, Nat.mul_one, Nat.zero_mul, Nat.one_mul, Int.le_refl, Nat.le_refl, Int.cast_ofNat_Int, hlt, hc1, gFalA, Int.toNat_natCast, hG, hb, Sx.cs]
              refine hQ1 _ _ ?_
              simp (decide := true) (maxSteps := 4000000) only [go_sem, Nat.reduceAdd, Nat.reduceSub, Nat.reduceMul, Nat.reduceDiv, Nat.reduceMod, Nat.reduceLT, Nat.reduceLeDiff, Nat.reduceEqDiff, Nat.reduceBEq, Nat.reduceBNe, Nat.reduceGT, Int.reduceAdd, Int.reduceSub, Int.reduceMul, Int.reduceNeg, Int.reduceLT, Int.reduceLE, Int.reduceEq, Int.reduceNe, Int.reduceBEq, Int.reduceBNe, Int.reduceToNat, Int.reduceGT, Int.reduceGE, ↓reduceIte, decide_true, decide_false, eq_self, Nat.mul_one, Nat.zero_mul, Nat.one_mul, Int.le_refl, Nat.le_refl, Int.cast_ofNat_Int, hst', Sx.cs]
            | false =>
              simp (decide := true) (maxSteps := 4000000) only [go_sem, Nat.reduceAdd, Nat.reduceSub, Nat.reduceMul, Nat.reduceDiv, Nat.reduceMod, Nat.reduceLT, Nat.reduceLeDiff, Nat.reduceEqDiff, Nat.reduceBEq, Nat.reduceBNe, Nat.reduceGT, Int.reduceAdd, Int.reduceSub, Int.reduceMul, Int.reduceNeg, Int.reduceLT, Int.reduceLE, Int.reduceEq, Int.reduceNe, Int.reduceBEq, Int.reduceBNe, Int.reduceToNat, Int.reduceGT, Int.reduceGE, ↓reduceIte, decide_true, decide_false, eq_self, Nat.mul_one, Nat.zero_mul, Nat.one_mul, Int.le_refl, Nat.le_refl, Int.cast_ofNat_Int, hlt, hc1, gFalA, Int.toNat_natCast, hG, hb, Sx.cs]
              refine hI1 _ ⟨k + 1, by omega, by rw [hR]; exact hb⟩ (by simp only; omega) ?_
              simp (decide := true) (maxSteps := 4000000) only [go_sem, Nat.reduceAdd, Nat.reduceSub, Nat.reduceMul, Nat.reduceDiv, Nat.reduceMod, Nat.reduceLT, Nat.reduceLeDiff, Nat.reduceEqDiff, Nat.reduceBEq, Nat.reduceBNe, Nat.reduceGT, Int.reduceAdd, Int.reduceSub, Int.reduceMul, Int.reduceNeg, Int.reduceLT, Int.reduceLE, Int.reduceEq, Int.reduceNe, Int.reduceBEq, Int.reduceBNe, Int.reduceToNat, Int.reduceGT, Int.reduceGE, ↓reduceIte, decide_true, decide_false, eq_self, Nat.mul_one, Nat.zero_mul, Nat.one_mul, Int.le_refl, Nat.le_refl, Int.cast_ofNat_Int, hc1, hR, Sx.cs]
          · have hke : k = l.length := by omega
            subst hke
            simp (decide := true) (maxSteps := 4000000) only [go_sem, Nat.reduceAdd, Nat.reduceSub, Nat.reduceMul, Nat.reduceDiv, Nat.reduceMod, Nat.reduceLT, Nat.reduceLeDiff, Nat.reduceEqDiff, Nat.reduceBEq, Nat.reduceBNe, Nat.reduceGT, Int.reduceAdd, Int.reduceSub, Int.reduceMul, Int.reduceNeg, Int.reduceLT, Int.reduceLE, Int.reduceEq, Int.reduceNe, Int.reduceBEq, Int.reduceBNe, Int.reduceToNat, Int.reduceGT, Int.reduceGE, ↓reduceIte, decide_true, decide_false, eq_self, Nat.mul_one, Nat.zero_mul, Nat.one_mul, Int.le_refl, Nat.le_refl, Int.cast_ofNat_Int, hlt]
            refine hQ1 _ _ ?_
            simp (decide := true) (maxSteps := 4000000) only [go_sem, Nat.reduceAdd, Nat.reduceSub, Nat.reduceMul, Nat.reduceDiv, Nat.reduceMod, Nat.reduceLT, Nat.reduceLeDiff, Nat.reduceEqDiff, Nat.reduceBEq, Nat.reduceBNe, Nat.reduceGT, Int.reduceAdd, Int.reduceSub, Int.reduceMul, Int.reduceNeg, Int.reduceLT, Int.reduceLE, Int.reduceEq, Int.reduceNe, Int.reduceBEq, Int.reduceBNe, Int.reduceToNat, Int.reduceGT, Int.reduceGE, ↓reduceIte, decide_true, decide_false, eq_self, Nat.mul_one, Nat.zero_mul, Nat.one_mul, Int.le_refl, Nat.le_refl, Int.cast_ofNat_Int, Sx.cs]
end Go.Proofs.Ytjmkccckohcfkaa

/- Part Sq. -/
namespace Go.Os
open Go Go.Pm Go.Oc Go.Oh
/-- A part: its kind, its price, its row of errors. -/
structure Pt where
  k : Int
  p : Int
  s : TV
def Pt.cs (x : Pt) : List TV := [.int .i64 x.k, .int .i64 x.p, x.s]
theorem Pt.cs_inj (x y : Pt) (h : x.cs = y.cs) : x = y := by
  obtain ⟨a, b, c⟩ := x; obtain ⟨d, e, f⟩ := y
  simp only [Pt.cs, List.cons.injEq, TV.int.injEq, true_and, and_true] at h
  rw [h.1, h.2.1, h.2.2]
noncomputable def unP (cs : List TV) : Option (List Pt) := unflat Pt.cs cs
theorem unP_eq (l : List Pt) : unP (l.flatMap Pt.cs) = some l := unflat_eq (n := 3) (fun _ => rfl) (by decide) Pt.cs_inj l
theorem unP_nil : unP [] = some [] := unP_eq []
theorem unP_some {cs : List TV} {l : List Pt} (h : unP cs = some l) : cs = l.flatMap Pt.cs := unflat_some h
theorem rowP_is {s : TV} {l : List Pt} (h : IsRow Pt.cs s l) : rowL unP s = some l := by
  rcases h with ⟨rfl, rfl⟩ | ⟨f, rfl⟩
  · exact unP_nil
  · simp [rowL, unP_eq]
attribute [go_sem] unP_eq unP_nil
/-- Its errors. -/
noncomputable def errs (x : Pt) : List Span := (rowL unS x.s).getD []
noncomputable def decP (x : Pt) : Bool := match rowL unS x.s with | some L => decide (L.length ≤ 9000000000000) | none => false
theorem decP_row {x : Pt} (h : decP x = true) : IsRow Span.cs x.s (errs x) ∧ (errs x).length ≤ 9000000000000 := by
  unfold decP at h
  unfold errs
  split at h
  · rename_i L hL
    rw [hL]
    exact ⟨rowL_some (un := unS) unS_nil (@unS_some) hL, by simpa using h⟩
  · cases h
noncomputable def ptB (n : Nat) (x : Pt) : Bool := inB x.k 0 2 && (inB x.p 0 1000 && (inB (errs x).length 2 12 && (decide ((errs x).length = n) && (errs x).all (spannedB · (-1000) 1000))))
/-- So many of the errors has the first part. -/
noncomputable def firstN (l : List Pt) : Nat := match l[0]? with | some x => (errs x).length | none => 0
noncomputable def stockB (l : List Pt) : Bool := inB l.length 3 12 && l.all (ptB (firstN l))
noncomputable def stTo (l : List Pt) (k : Nat) : Bool := inB l.length 3 12 && (l.take k).all (ptB (firstN l))
theorem stTo_succ {l : List Pt} {k : Nat} {x : Pt} (h : l[k]? = some x) : stTo l (k + 1) = (stTo l k && (inB x.k 0 2 && (inB x.p 0 1000 && (inB (errs x).length 2 12 && (decide ((errs x).length = firstN l) && (errs x).all (spannedB · (-1000) 1000)))))) := by
  unfold stTo; rw [take_all (ptB (firstN l)) h]; unfold ptB; simp only [Bool.and_assoc]
theorem and5 : ∀ a b c d e f : Bool, (((a && b && c) && d && e) && f) = (a && (b && (c && (d && (e && f))))) := by decide
theorem decI (a b : Nat) : ((a : Int) == (b : Int)) = decide (a = b) := by
  by_cases h : a = b
  · subst h; simp
  · rw [decide_eq_false h]; exact beq_int_f (by omega)
end Go.Os
namespace Go.Proofs.Ytjmkccckohcfkaa
open Go.RowKit Go.Pm Go.Oc Go.Oh Go.Os
set_option maxRecDepth 100000
set_option linter.unusedVariables false
set_option maxHeartbeats 8000000

theorem sIsStock_c {l : List Pt} {s : TV} (hs : IsRow Pt.cs s l) (ll : l.length ≤ 9000000000000) (hd : l.all decP = true) : PCalls Try.prog 83 [s] (.bool (stockB l)) := by
  have hend : stTo l l.length = stockB l := by unfold stTo stockB; rw [List.take_length]
  have hcase : stTo l 0 = inB l.length 3 12 := by simp [stTo]
  refine pcalls_by Try.mixes spSe_ok (fn := Try.f83) Try.func83 rfl (by kernel_rfl) (by show 1 ≤ _; decide) ?_
  rcases hs with ⟨rfl, rfl⟩ | ⟨g, rfl⟩
  · have c2 : stockB [] = inB 0 3 12 := by rw [← hend]; exact hcase
    simp (decide := true) (maxSteps := 4000000) only [go_sem, Nat.reduceAdd, Nat.reduceSub, Nat.reduceMul, Nat.reduceDiv, Nat.reduceMod, Nat.reduceLT, Nat.reduceLeDiff, Nat.reduceEqDiff, Nat.reduceBEq, Nat.reduceBNe, Nat.reduceGT, Int.reduceAdd, Int.reduceSub, Int.reduceMul, Int.reduceNeg, Int.reduceLT, Int.reduceLE, Int.reduceEq, Int.reduceNe, Int.reduceBEq, Int.reduceBNe, Int.reduceToNat, Int.reduceGT, Int.reduceGE, ↓reduceIte, decide_true, decide_false, eq_self, Nat.mul_one, Nat.zero_mul, Nat.one_mul, Int.le_refl, Nat.le_refl, Int.cast_ofNat_Int, Try.f83]
    refine pwpC_loopU (A := Unit) [0, 9, 10] (fun _ => [(11, .t (.int .i64 0)), (3, .t (.bool (inB 0 3 12)))]) (fun _ => []) (fun _ => 0) () (by decide) (fun _ => by rfl) ?_ fun Q1 hQ1 _ I1 hI1 => ?_
    · simp (decide := true) (maxSteps := 4000000) only [go_sem, Nat.reduceAdd, Nat.reduceSub, Nat.reduceMul, Nat.reduceDiv, Nat.reduceMod, Nat.reduceLT, Nat.reduceLeDiff, Nat.reduceEqDiff, Nat.reduceBEq, Nat.reduceBNe, Nat.reduceGT, Int.reduceAdd, Int.reduceSub, Int.reduceMul, Int.reduceNeg, Int.reduceLT, Int.reduceLE, Int.reduceEq, Int.reduceNe, Int.reduceBEq, Int.reduceBNe, Int.reduceToNat, Int.reduceGT, Int.reduceGE, ↓reduceIte, decide_true, decide_false, eq_self, Nat.mul_one, Nat.zero_mul, Nat.one_mul, Int.le_refl, Nat.le_refl, Int.cast_ofNat_Int]
    · simp (decide := true) (maxSteps := 4000000) only [go_sem, Nat.reduceAdd, Nat.reduceSub, Nat.reduceMul, Nat.reduceDiv, Nat.reduceMod, Nat.reduceLT, Nat.reduceLeDiff, Nat.reduceEqDiff, Nat.reduceBEq, Nat.reduceBNe, Nat.reduceGT, Int.reduceAdd, Int.reduceSub, Int.reduceMul, Int.reduceNeg, Int.reduceLT, Int.reduceLE, Int.reduceEq, Int.reduceNe, Int.reduceBEq, Int.reduceBNe, Int.reduceToNat, Int.reduceGT, Int.reduceGE, ↓reduceIte, decide_true, decide_false, eq_self, Nat.mul_one, Nat.zero_mul, Nat.one_mul, Int.le_refl, Nat.le_refl, Int.cast_ofNat_Int]
      refine hQ1 _ _ ?_
      simp (decide := true) (maxSteps := 4000000) only [go_sem, Nat.reduceAdd, Nat.reduceSub, Nat.reduceMul, Nat.reduceDiv, Nat.reduceMod, Nat.reduceLT, Nat.reduceLeDiff, Nat.reduceEqDiff, Nat.reduceBEq, Nat.reduceBNe, Nat.reduceGT, Int.reduceAdd, Int.reduceSub, Int.reduceMul, Int.reduceNeg, Int.reduceLT, Int.reduceLE, Int.reduceEq, Int.reduceNe, Int.reduceBEq, Int.reduceBNe, Int.reduceToNat, Int.reduceGT, Int.reduceGE, ↓reduceIte, decide_true, decide_false, eq_self, Nat.mul_one, Nat.zero_mul, Nat.one_mul, Int.le_refl, Nat.le_refl, Int.cast_ofNat_Int, c2]
  · simp (decide := true) (maxSteps := 4000000) only [go_sem, Nat.reduceAdd, Nat.reduceSub, Nat.reduceMul, Nat.reduceDiv, Nat.reduceMod, Nat.reduceLT, Nat.reduceLeDiff, Nat.reduceEqDiff, Nat.reduceBEq, Nat.reduceBNe, Nat.reduceGT, Int.reduceAdd, Int.reduceSub, Int.reduceMul, Int.reduceNeg, Int.reduceLT, Int.reduceLE, Int.reduceEq, Int.reduceNe, Int.reduceBEq, Int.reduceBNe, Int.reduceToNat, Int.reduceGT, Int.reduceGE, ↓reduceIte, decide_true, decide_false, eq_self, Nat.mul_one, Nat.zero_mul, Nat.one_mul, Int.le_refl, Nat.le_refl, Int.cast_ofNat_Int, Try.f83]
    refine pwpC_loopU (A := { k : Nat // k ≤ l.length }) [0, 9, 10] (fun k => [(11, .t (.int .i64 k.1)), (3, .t (.bool (stTo l k.1)))]) (fun _ => []) (fun k => l.length - k.1) ⟨0, by omega⟩ (by decide) (fun _ => by rfl) ?_ fun Q1 hQ1 ⟨k, hk⟩ I1 hI1 => ?_
    · simp (decide := true) (maxSteps := 4000000) only [go_sem, Nat.reduceAdd, Nat.reduceSub, Nat.reduceMul, Nat.reduceDiv, Nat.reduceMod, Nat.reduceLT, Nat.reduceLeDiff, Nat.reduceEqDiff, Nat.reduceBEq, Nat.reduceBNe, Nat.reduceGT, Int.reduceAdd, Int.reduceSub, Int.reduceMul, Int.reduceNeg, Int.reduceLT, Int.reduceLE, Int.reduceEq, Int.reduceNe, Int.reduceBEq, Int.reduceBNe, Int.reduceToNat, Int.reduceGT, Int.reduceGE, ↓reduceIte, decide_true, decide_false, eq_self, Nat.mul_one, Nat.zero_mul, Nat.one_mul, Int.le_refl, Nat.le_refl, Int.cast_ofNat_Int, hcase]
    · by_cases hlt : (k : Int) < l.length
      · obtain ⟨x, hx⟩ := get_lt hlt
        obtain ⟨y, hy⟩ := get_lt (l := l) (k := 0) (by omega)
        have hdx := flat_at Pt.cs (n := 3) (fun _ => rfl) hx
        have hdy := flat_at Pt.cs (n := 3) (fun _ => rfl) hy
        rw [Nat.zero_mul, List.drop_zero] at hdy
        have hdy2 : (List.drop 2 (List.flatMap Pt.cs l))[0]? = some y.s := by rw [hdy]; rfl
        have hc1 : IntKind.i64.wrap (k + 1) = ((k + 1 : Nat) : Int) := by rw [wrap_in (by omega) (by omega)]; omega
        have h0l : (0 : Int) < l.length := by omega
        obtain ⟨hrx, hlx⟩ := decP_row (List.all_eq_true.1 hd x (List.mem_of_getElem? hx))
        obtain ⟨hry, hly⟩ := decP_row (List.all_eq_true.1 hd y (List.mem_of_getElem? hy))
        have hnx := stTo_succ hx
        have hfn : firstN l = (errs y).length := by unfold firstN; rw [hy]
        rw [hfn] at hnx
        obtain ⟨B, hB⟩ : ∃ B, stTo l k = B := ⟨_, rfl⟩
        rw [hB] at hnx
        obtain ⟨X, hX⟩ : ∃ X, errs x = X := ⟨_, rfl⟩
        obtain ⟨Y, hY⟩ : ∃ Y, errs y = Y := ⟨_, rfl⟩
        rw [hX] at hrx hlx hnx
        rw [hY] at hry hly hnx
        obtain ⟨xk, xp, xs⟩ := x
        obtain ⟨yk, yp, ys⟩ := y
        simp only at hrx hry hdy2
        have hX9 : X.length ≤ 9000000000000 := hlx
        have hde := decI X.length Y.length
        have h0y : ((0 : Int) == (Y.length : Int)) = decide (0 = Y.length) := decI 0 Y.length
        have hx0 : ((X.length : Int) == 0) = decide (X.length = 0) := decI X.length 0
        rcases hrx with ⟨rfl, rfl⟩ | ⟨fx, rfl⟩ <;> rcases hry with ⟨rfl, rfl⟩ | ⟨fy, rfl⟩
        all_goals
          simp (decide := true) (maxSteps := 4000000) only [go_sem, Nat.reduceAdd, Nat.reduceSub, Nat.reduceMul, Nat.reduceDiv, Nat.reduceMod, Nat.reduceLT, Nat.reduceLeDiff, Nat.reduceEqDiff, Nat.reduceBEq, Nat.reduceBNe, Nat.reduceGT, Int.reduceAdd, Int.reduceSub, Int.reduceMul, Int.reduceNeg, Int.reduceLT, Int.reduceLE, Int.reduceEq, Int.reduceNe, Int.reduceBEq, Int.reduceBNe, Int.reduceToNat, Int.reduceGT, Int.reduceGE, ↓reduceIte, decide_true, decide_false, eq_self, Nat.mul_one, Nat.zero_mul, Nat.one_mul, Int.le_refl, Nat.le_refl, Int.cast_ofNat_Int, hlt, hdx, h0l, Pt.cs, hB, hX9, hde, hdy2]
          refine hI1 _ ⟨k + 1, by omega⟩ (by simp only; omega) ?_
          simp (decide := true) (maxSteps := 4000000) only [go_sem, Nat.reduceAdd, Nat.reduceSub, Nat.reduceMul, Nat.reduceDiv, Nat.reduceMod, Nat.reduceLT, Nat.reduceLeDiff, Nat.reduceEqDiff, Nat.reduceBEq, Nat.reduceBNe, Nat.reduceGT, Int.reduceAdd, Int.reduceSub, Int.reduceMul, Int.reduceNeg, Int.reduceLT, Int.reduceLE, Int.reduceEq, Int.reduceNe, Int.reduceBEq, Int.reduceBNe, Int.reduceToNat, Int.reduceGT, Int.reduceGE, ↓reduceIte, decide_true, decide_false, eq_self, Nat.mul_one, Nat.zero_mul, Nat.one_mul, Int.le_refl, Nat.le_refl, Int.cast_ofNat_Int, hc1, hnx, and5, List.length_nil, Bool.and_assoc, h0y, hx0]
      · have hke : k = l.length := by omega
        subst hke
        simp (decide := true) (maxSteps := 4000000) only [go_sem, Nat.reduceAdd, Nat.reduceSub, Nat.reduceMul, Nat.reduceDiv, Nat.reduceMod, Nat.reduceLT, Nat.reduceLeDiff, Nat.reduceEqDiff, Nat.reduceBEq, Nat.reduceBNe, Nat.reduceGT, Int.reduceAdd, Int.reduceSub, Int.reduceMul, Int.reduceNeg, Int.reduceLT, Int.reduceLE, Int.reduceEq, Int.reduceNe, Int.reduceBEq, Int.reduceBNe, Int.reduceToNat, Int.reduceGT, Int.reduceGE, ↓reduceIte, decide_true, decide_false, eq_self, Nat.mul_one, Nat.zero_mul, Nat.one_mul, Int.le_refl, Nat.le_refl, Int.cast_ofNat_Int, hlt]
        refine hQ1 _ _ ?_
        simp (decide := true) (maxSteps := 4000000) only [go_sem, Nat.reduceAdd, Nat.reduceSub, Nat.reduceMul, Nat.reduceDiv, Nat.reduceMod, Nat.reduceLT, Nat.reduceLeDiff, Nat.reduceEqDiff, Nat.reduceBEq, Nat.reduceBNe, Nat.reduceGT, Int.reduceAdd, Int.reduceSub, Int.reduceMul, Int.reduceNeg, Int.reduceLT, Int.reduceLE, Int.reduceEq, Int.reduceNe, Int.reduceBEq, Int.reduceBNe, Int.reduceToNat, Int.reduceGT, Int.reduceGE, ↓reduceIte, decide_true, decide_false, eq_self, Nat.mul_one, Nat.zero_mul, Nat.one_mul, Int.le_refl, Nat.le_refl, Int.cast_ofNat_Int, hend]
end Go.Proofs.Ytjmkccckohcfkaa
