/- What the claim leans on, text 6. -/
import Derived.Test.YtadkjjnnnkfalaaC5
set_option linter.unusedSimpArgs false
set_option linter.unusedVariables false

/- Part Sl. -/
namespace Go.Proofs.Ytadkjjnnnkfalaa.Sx
end Go.Proofs.Ytadkjjnnnkfalaa.Sx
namespace Go.Os
open Go Go.Pm Go.Oc Go.Oh
/-- What is left of the corrections at an angle with an index error. -/
def accS (i : Int) (c : Span) (l : List Span) : Span := l.foldl (fun a s => ⟨max a.lo (s.lo - i), min a.hi (s.hi - i)⟩) c
theorem accS_take {i : Int} {c : Span} {l : List Span} {j : Nat} {s : Span} (h : l[j]? = some s) : accS i c (l.take (j + 1)) = ⟨max (accS i c (l.take j)).lo (s.lo - i), min (accS i c (l.take j)).hi (s.hi - i)⟩ := by
  unfold accS; rw [take_snoc h, List.foldl_append]; rfl
def tabK (x : Sx) (l : List Tr) (i : Int) (k : Nat) : Span := accS i (atS x.tab k) (sumsN x l k)
def okT (x : Sx) (l : List Tr) (i : Int) : Bool := (List.range x.tab.length).all fun k => decide ((tabK x l i k).lo ≤ (tabK x l i k).hi)
def tabR (x : Sx) (l : List Tr) (i : Int) : List Span := (List.range x.tab.length).map (tabK x l i)
def tabL (x : Sx) (l : List Tr) (i : Int) (k : Nat) : List Span := (List.range x.tab.length).map fun j => if j < k then tabK x l i j else atS x.tab j
theorem tabL_len (x : Sx) (l : List Tr) (i : Int) (k : Nat) : (tabL x l i k).length = x.tab.length := by simp [tabL]
theorem tabR_len (x : Sx) (l : List Tr) (i : Int) : (tabR x l i).length = x.tab.length := by simp [tabR]
theorem tabL_zero (x : Sx) (l : List Tr) (i : Int) : tabL x l i 0 = x.tab := by
  refine List.ext_getElem (tabL_len _ _ _ _) fun j h1 h2 => ?_
  simp only [tabL, List.getElem_map, List.getElem_range, Nat.not_lt_zero, if_false]
  exact atS_eq (List.getElem?_eq_getElem h2)
theorem tabL_end (x : Sx) (l : List Tr) (i : Int) : tabL x l i x.tab.length = tabR x l i := by
  unfold tabL tabR
  exact List.map_congr_left fun j hj => if_pos (List.mem_range.1 hj)
theorem tabL_succ (x : Sx) (l : List Tr) (i : Int) (k : Nat) : tabL x l i (k + 1) = (tabL x l i k).set k (tabK x l i k) := by
  refine List.ext_getElem (by simp [tabL_len]) fun j h1 h2 => ?_
  rw [List.getElem_set]
  simp only [tabL, List.getElem_map, List.getElem_range]
  by_cases e : k = j
  · subst e; simp
  · rw [if_neg e]
    by_cases h : j < k
    · rw [if_pos h, if_pos (by omega)]
    · rw [if_neg h, if_neg (by omega)]
theorem tabL_at (x : Sx) (l : List Tr) (i : Int) {k : Nat} (h : k < x.tab.length) : (tabL x l i k)[k]? = some (atS x.tab k) := by
  unfold tabL; rw [List.getElem?_map, List.getElem?_range h]; simp
theorem tabL_set0 (x : Sx) (l : List Tr) (i : Int) {k : Nat} (h : k < x.tab.length) : (tabL x l i k).set k (atS x.tab k) = tabL x l i k := by
  refine List.ext_getElem (by simp) fun j h1 h2 => ?_
  rw [List.getElem_set]
  split
  · rename_i e; subst e; have := tabL_at x l i h; rw [List.getElem?_eq_getElem h2] at this; exact (Option.some.inj this).symm
  · rfl
def cntT (p : Nat → Bool) (i : Nat) : Nat := ((List.range i).filter p).length
theorem cntT_succ (p : Nat → Bool) (i : Nat) : cntT p (i + 1) = cntT p i + if p i then 1 else 0 := by
  unfold cntT; rw [List.range_succ, List.filter_append, List.length_append]
  cases h : p i <;> simp [h]
theorem cntT_mono (p : Nat → Bool) {i j : Nat} (h : i ≤ j) : cntT p i ≤ cntT p j := by
  induction j with
  | zero => have : i = 0 := by omega
            subst this; exact Nat.le_refl _
  | succ j ih =>
    by_cases e : i = j + 1
    · subst e; exact Nat.le_refl _
    · have := ih (by omega); rw [cntT_succ]; omega
theorem filt_at (p : Nat → Bool) {i : Nat} (hp : p i = true) : ∀ {N : Nat}, i < N → ((List.range N).filter p)[cntT p i]? = some i
  | 0, h => by omega
  | N + 1, h => by
    rw [List.range_succ, List.filter_append]
    by_cases e : i = N
    · subst e
      rw [List.getElem?_append_right (by unfold cntT; exact Nat.le_refl _)]
      simp [cntT, hp]
    · have ih := filt_at p hp (show i < N by omega)
      rw [List.getElem?_append_left (List.getElem?_eq_some_iff.1 ih).1]
      exact ih
/-- Where a range over what passes is left. -/
theorem stopAt (p : Nat → Bool) {N M : Nat} {stop : Bool} (h1 : M ≤ cntT p N) (h2 : stop = false → M = cntT p N) (h3 : stop = true → 0 < M) :
    ∃ m, m ≤ N ∧ (stop = false → m = N) ∧ (stop = true → 0 < m) ∧ cntT p m = M ∧ ∀ i, i < m → (p i = true → cntT p i < M ∧ (stop && cntT p i + 1 == M) = decide (stop = true ∧ i + 1 = m)) ∧ (p i = false → ¬ (stop = true ∧ i + 1 = m)) := by
  cases stop with
  | false =>
    refine ⟨N, Nat.le_refl _, fun _ => rfl, fun h => (by cases h), (h2 rfl).symm, fun i hi => ⟨fun hp => ⟨?_, by simp⟩, fun _ => by simp⟩⟩
    have := cntT_mono p (show i + 1 ≤ N by omega)
    rw [cntT_succ, hp] at this
    have := h2 rfl
    simp at *; omega
  | true =>
    have hM := h3 rfl
    have hl : M - 1 < ((List.range N).filter p).length := by unfold cntT at h1; omega
    obtain ⟨j, hj⟩ : ∃ j, ((List.range N).filter p)[M - 1]? = some j := ⟨_, List.getElem?_eq_getElem hl⟩
    have hmem := List.mem_of_getElem? hj
    rw [List.mem_filter, List.mem_range] at hmem
    have hc : cntT p j = M - 1 := by
      have h4 := filt_at p hmem.2 hmem.1
      have hnd : ((List.range N).filter p).Nodup := List.nodup_range.filter _
      have h5 := (List.getElem?_inj (List.getElem?_eq_some_iff.1 h4).1 hnd).1 (h4.trans hj.symm)
      exact h5
    refine ⟨j + 1, by omega, fun h => (by cases h), fun _ => by omega, by rw [cntT_succ, hmem.2, hc]; simp; omega, fun i hi => ⟨fun hp => ?_, fun hp => ?_⟩⟩
    · by_cases e : i = j
      · subst e; rw [hc]; exact ⟨by omega, by simp; omega⟩
      · have h4 := cntT_mono p (show i + 1 ≤ j by omega)
        rw [cntT_succ, hp, hc] at h4
        simp only [if_true] at h4
        refine ⟨by omega, ?_⟩
        rw [decide_eq_false (by rintro ⟨_, h⟩; omega)]
        simp; omega
    · rintro ⟨_, h⟩
      have : i = j := by omega
      subst this; rw [hmem.2] at hp; cases hp
def okI (x : Sx) (l : List Tr) (j : Nat) : Bool := okT x l (x.idx.lo + (j : Int))
/-- What the range over tables hands out. -/
def tabsV (x : Sx) (l : List Tr) : List (List TV) := ((List.range (idxN x)).filter (okI x l)).map fun (j : Nat) => [.int .i64 (x.idx.lo + (j : Int)), .sl ((tabR x l (x.idx.lo + (j : Int))).flatMap Span.cs) x.tab.length false]
theorem tabsV_at {x : Sx} {l : List Tr} {i : Nat} (hi : i < idxN x) (hp : okI x l i = true) : (tabsV x l)[cntT (okI x l) i]? = some [.int .i64 (x.idx.lo + (i : Int)), .sl ((tabR x l (x.idx.lo + (i : Int))).flatMap Span.cs) x.tab.length false] := by
  unfold tabsV; rw [List.getElem?_map, filt_at _ hp hi]; rfl
theorem set_flat {l : List Span} {k : Nat} (h : k < l.length) (v : Span) : (l.flatMap Span.cs).take (k * 2) ++ v.cs ++ (l.flatMap Span.cs).drop (k * 2 + 2) = (l.set k v).flatMap Span.cs := by
  induction l generalizing k with
  | nil => simp at h
  | cons y l ih =>
    cases k with
    | zero => simp [Span.cs]
    | succ k =>
      have := ih (k := k) (by simpa using h)
      rw [List.set_cons_succ, List.flatMap_cons, List.flatMap_cons, ← this, show (k + 1) * 2 = k * 2 + 1 + 1 by omega, show k * 2 + 1 + 1 + 2 = k * 2 + 2 + 1 + 1 by omega]
      simp [Span.cs]
structure RowF (C : List Span) (n k : Nat) (A : Span) : Prop where
  len : (List.map PV.t (C.flatMap Span.cs)).length = n * 2
  len' : (C.flatMap Span.cs).length = n * 2
  drop : List.drop (k * 2) (List.map PV.t (C.flatMap Span.cs)) = .t (.int .i64 A.lo) :: .t (.int .i64 A.hi) :: List.map PV.t ((C.drop (k + 1)).flatMap Span.cs)
  lo : (List.map PV.t (C.flatMap Span.cs))[k * 2]? = some (.t (.int .i64 A.lo))
  hi : (List.map PV.t (C.flatMap Span.cs))[k * 2 + 1]? = some (.t (.int .i64 A.hi))
  b : k * 2 + 2 ≤ n * 2
  set : ∀ v0 v1 : Int, List.take (k * 2) (List.map PV.t (C.flatMap Span.cs)) ++ [.t (.int .i64 v0), .t (.int .i64 v1)] ++ List.drop (k * 2 + 2) (List.map PV.t (C.flatMap Span.cs)) = List.map PV.t ((C.set k ⟨v0, v1⟩).flatMap Span.cs)
theorem rowF {C : List Span} {n k : Nat} {A : Span} (hn : C.length = n) (h : C[k]? = some A) : RowF C n k A := by
  have hk := (List.getElem?_eq_some_iff.1 h).1
  have h1 := flat_len Span.cs (n := 2) (fun _ => rfl) C
  have h2 := flat_at Span.cs (n := 2) (fun _ => rfl) h
  have h3 : List.drop (k * 2) (List.map PV.t (C.flatMap Span.cs)) = .t (.int .i64 A.lo) :: .t (.int .i64 A.hi) :: List.map PV.t ((C.drop (k + 1)).flatMap Span.cs) := by
    rw [← List.map_drop, h2]; rfl
  have e : ∀ i, (List.map PV.t (C.flatMap Span.cs))[k * 2 + i]? = (List.drop (k * 2) (List.map PV.t (C.flatMap Span.cs)))[i]? := fun i => by rw [List.getElem?_drop]
  refine ⟨by rw [List.length_map, h1, hn], by rw [h1, hn], h3, ?_, ?_, by omega, fun v0 v1 => ?_⟩
  · have := e 0; rw [h3] at this; exact this
  · have := e 1; rw [h3] at this; exact this
  · have := congrArg (List.map PV.t) (set_flat hk ⟨v0, v1⟩)
    rw [List.map_append, List.map_append, List.map_take, List.map_drop] at this
    exact this
theorem heard_at (x : Sx) (l : List Tr) {k : Nat} (h : k < 12) : [rowSp (sumsN x l 0), rowSp (sumsN x l 1), rowSp (sumsN x l 2), rowSp (sumsN x l 3), rowSp (sumsN x l 4), rowSp (sumsN x l 5), rowSp (sumsN x l 6), rowSp (sumsN x l 7), rowSp (sumsN x l 8), rowSp (sumsN x l 9), rowSp (sumsN x l 10), rowSp (sumsN x l 11)][k]? = some (rowSp (sumsN x l k)) := by
  rcases lt12 h with rfl | rfl | rfl | rfl | rfl | rfl | rfl | rfl | rfl | rfl | rfl | rfl <;> rfl
theorem trS_b {x : Sx} (h : GoodS x) {p : Tr} (hp : trB x p = true) : -600000 ≤ (trS x p).lo ∧ (trS x p).lo ≤ 600000 ∧ -600000 ≤ (trS x p).hi ∧ (trS x p).hi ≤ 600000 := by
  unfold trB at hp
  simp only [Bool.and_eq_true, inB_iff, decide_eq_true_eq] at hp
  obtain ⟨hr, hdiv, ht⟩ := hp
  obtain ⟨hr1, hr2⟩ := isRd_iff.1 hr
  have := shs_b h p.s.toNat
  have := last_b h
  unfold trS; simp only; omega
theorem sumsN_b {x : Sx} (h : GoodS x) {l : List Tr} (hl : l.all (trB x) = true) {k : Nat} {s : Span} (hs : s ∈ sumsN x l k) : -600000 ≤ s.lo ∧ s.lo ≤ 600000 ∧ -600000 ≤ s.hi ∧ s.hi ≤ 600000 := by
  unfold sumsN at hs
  obtain ⟨p, hp, rfl⟩ := List.mem_map.1 hs
  exact trS_b h (List.all_eq_true.1 hl p (List.mem_filter.1 hp).1)
end Go.Os
namespace Go.Proofs.Ytadkjjnnnkfalaa.Sx
open Go.RowKit Go.Pm Go.Oc Go.Oh Go.Os
set_option maxRecDepth 100000
set_option linter.unusedVariables false
set_option maxHeartbeats 8000000

noncomputable def spLa : Pm.Spec := Spec.oneH 89 sxClone (((noSpec.one 120 sxIndices).one 122 sxSum).one 121 sxBoth)
@[go_sem] theorem spLa_p (f : FuncId) (xs : List TV) : spLa.p f xs = Pm.Spec.p (Spec.oneH 89 sxClone (((noSpec.one 120 sxIndices).one 122 sxSum).one 121 sxBoth)) f xs := rfl
@[go_sem] theorem spLa_h (f : FuncId) (ps : List PV) (hl : List PO) : spLa.h f ps hl = Pm.Spec.h (Spec.oneH 89 sxClone (((noSpec.one 120 sxIndices).one 122 sxSum).one 121 sxBoth)) f ps hl := rfl
@[go_sem] theorem spLa_y (Y : Pm.YS) (f : FuncId) (ps : List PV) (hl : List PO) : spLa.y Y f ps hl = Pm.Spec.y (Spec.oneH 89 sxClone (((noSpec.one 120 sxIndices).one 122 sxSum).one 121 sxBoth)) Y f ps hl := rfl
@[go_sem] theorem spLa_fz (f : FuncId) : spLa.fz f = Pm.Spec.fz (Spec.oneH 89 sxClone (((noSpec.one 120 sxIndices).one 122 sxSum).one 121 sxBoth)) f := rfl
@[go_sem] theorem spLa_fr (f : FuncId) : spLa.fr f = Pm.Spec.fr (Spec.oneH 89 sxClone (((noSpec.one 120 sxIndices).one 122 sxSum).one 121 sxBoth)) f := rfl
@[go_sem] theorem spLa_yf (f : FuncId) : spLa.yf f = Pm.Spec.yf (Spec.oneH 89 sxClone (((noSpec.one 120 sxIndices).one 122 sxSum).one 121 sxBoth)) f := rfl
@[go_sem] theorem spLa_mu (t : TypeId) : spLa.mu t = Pm.Spec.mu (Spec.oneH 89 sxClone (((noSpec.one 120 sxIndices).one 122 sxSum).one 121 sxBoth)) t := rfl
@[go_sem] theorem spLa_nf (t : TypeId) : spLa.nf t = Pm.Spec.nf (Spec.oneH 89 sxClone (((noSpec.one 120 sxIndices).one 122 sxSum).one 121 sxBoth)) t := rfl
theorem spLa_ok : SpecOk Try.prog spLa := Spec.oneH_ok sxClone_ok (Spec.one_ok sxBoth_ok (Spec.one_ok sxSum_ok (Spec.one_ok sxIndices_ok noSpec_ok)))
theorem sTablesI_c (x : Sx) {sT sS : TV} (hT : IsRow Span.cs sT x.tab) (hv : sxOk x = true) {l : List Tr} (hl : l.all (trB x) = true) (h8 : l.length ≤ 8) : Iter Try.prog 119 [] [.cptr (x.cs sT sS), .cptr (heardC x l)] (tabsV x l) := by
  have h := sxOk_iff.1 hv
  have hi := h.idx
  have hlen := h.len
  obtain ⟨f, rfl⟩ := good_T h hT
  refine iter_by Try.mixes spLa_ok (fn := Try.f119) Try.func119 rfl (by kernel_rfl) rfl (by show 3 ≤ _; decide) ?_
  intro y M stop hm1 hm2 hm3
  have hN : (tabsV x l).length = cntT (okI x l) (idxN x) := by simp [tabsV, cntT]
  rw [hN] at hm1 hm2
  obtain ⟨m, q1, q2, q3, q4, q5⟩ := stopAt (okI x l) hm1 hm2 hm3
  simp (decide := true) (maxSteps := 4000000) only [go_sem, Nat.reduceAdd, Nat.reduceSub, Nat.reduceMul, Nat.reduceDiv, Nat.reduceMod, Nat.reduceLT, Nat.reduceLeDiff, Nat.reduceEqDiff, Nat.reduceBEq, Nat.reduceBNe, Nat.reduceGT, Int.reduceAdd, Int.reduceSub, Int.reduceMul, Int.reduceNeg, Int.reduceLT, Int.reduceLE, Int.reduceEq, Int.reduceNe, Int.reduceBEq, Int.reduceBNe, Int.reduceToNat, Int.reduceGT, Int.reduceGE, ↓reduceIte, decide_true, decide_false, eq_self, Nat.mul_one, Nat.zero_mul, Nat.one_mul, Int.le_refl, Nat.le_refl, Int.cast_ofNat_Int, Try.f119, Sx.cs, heardC]
  have e0 : Sx.mk x.step x.tab ⟨x.idx.lo, x.idx.hi⟩ x.wrong x.shade = x := rfl
  obtain ⟨HC, hHC⟩ : ∃ HC, heardC x l = HC := ⟨_, rfl⟩
  have hHC' := hHC
  unfold heardC at hHC'
  rw [hHC']
  have hfl : (List.flatMap Span.cs x.tab).length = x.tab.length * 2 := flat_len Span.cs (n := 2) (fun _ => rfl) _
  refine pwpC_rangeS rfl 129 [] [.cptr (x.cs (.sl (x.tab.flatMap Span.cs) x.tab.length f) sS)] (idxV x) [(10, .t (.fn 129 [] [.cptr (x.cs (.sl (x.tab.flatMap Span.cs) x.tab.length f) sS)])), (3, .ptr 1 0), (1, .t (.cptr (x.cs (.sl (x.tab.flatMap Span.cs) x.tab.length f) sS))), (2, .t (.cptr HC))]
    (fun i => [.cnt (cntT (okI x l) i), .box [.yld y]]) 2 m stop (if stop then .ret else .normal) ?_ (by rfl) (by rfl) ?_ (sIndicesI_c x _ _ hi) ?_ ?_ ?_ ?_ (fun i => Nat.le_refl _) (fun i v him hx => ?_) ?_
  · simp (decide := true) (maxSteps := 4000000) only [go_sem, Nat.reduceAdd, Nat.reduceSub, Nat.reduceMul, Nat.reduceDiv, Nat.reduceMod, Nat.reduceLT, Nat.reduceLeDiff, Nat.reduceEqDiff, Nat.reduceBEq, Nat.reduceBNe, Nat.reduceGT, Int.reduceAdd, Int.reduceSub, Int.reduceMul, Int.reduceNeg, Int.reduceLT, Int.reduceLE, Int.reduceEq, Int.reduceNe, Int.reduceBEq, Int.reduceBNe, Int.reduceToNat, Int.reduceGT, Int.reduceGE, ↓reduceIte, decide_true, decide_false, eq_self, Nat.mul_one, Nat.zero_mul, Nat.one_mul, Int.le_refl, Nat.le_refl, Int.cast_ofNat_Int, Sx.cs, cntT, List.range_zero, List.filter_nil, List.length_nil]
  · simp (decide := true) (maxSteps := 4000000) only [go_sem, Nat.reduceAdd, Nat.reduceSub, Nat.reduceMul, Nat.reduceDiv, Nat.reduceMod, Nat.reduceLT, Nat.reduceLeDiff, Nat.reduceEqDiff, Nat.reduceBEq, Nat.reduceBNe, Nat.reduceGT, Int.reduceAdd, Int.reduceSub, Int.reduceMul, Int.reduceNeg, Int.reduceLT, Int.reduceLE, Int.reduceEq, Int.reduceNe, Int.reduceBEq, Int.reduceBNe, Int.reduceToNat, Int.reduceGT, Int.reduceGE, ↓reduceIte, decide_true, decide_false, eq_self, Nat.mul_one, Nat.zero_mul, Nat.one_mul, Int.le_refl, Nat.le_refl, Int.cast_ofNat_Int, Sx.cs]
  · intro v hv
    unfold idxV at hv
    obtain ⟨y, _, rfl⟩ := List.mem_map.1 hv
    rfl
  · simpa [idxV] using q1
  · intro e; subst e; exact ⟨by rw [q2 rfl]; simp [idxV], rfl⟩
  · intro e; subst e; exact ⟨q3 rfl, rfl⟩
  · have hiN : i < idxN x := by omega
    rw [idxV_at hiN] at hx
    cases hx
    have hib : -1800 ≤ x.idx.lo + (i : Int) ∧ x.idx.lo + (i : Int) ≤ 1800 := by unfold idxN at hiN; omega
    have hq5 := q5 i him
    have hok : okI x l i = okT x l (x.idx.lo + (i : Int)) := rfl
    have hat := tabsV_at (l := l) hiN
    have hcs := cntT_succ (okI x l) i
    obtain ⟨I, hI⟩ : ∃ I, x.idx.lo + (i : Int) = I := ⟨_, rfl⟩
    rw [hI] at hib hok hat ⊢
    obtain ⟨P, hP⟩ : ∃ P, okI x l i = P := ⟨_, rfl⟩
    rw [hP] at hq5 hok hat hcs
    have h12 : 1 ≤ x.tab.length ∧ x.tab.length ≤ 12 := by omega
    simp (decide := true) (maxSteps := 4000000) only [go_sem, Nat.reduceAdd, Nat.reduceSub, Nat.reduceMul, Nat.reduceDiv, Nat.reduceMod, Nat.reduceLT, Nat.reduceLeDiff, Nat.reduceEqDiff, Nat.reduceBEq, Nat.reduceBNe, Nat.reduceGT, Int.reduceAdd, Int.reduceSub, Int.reduceMul, Int.reduceNeg, Int.reduceLT, Int.reduceLE, Int.reduceEq, Int.reduceNe, Int.reduceBEq, Int.reduceBNe, Int.reduceToNat, Int.reduceGT, Int.reduceGE, ↓reduceIte, decide_true, decide_false, eq_self, Nat.mul_one, Nat.zero_mul, Nat.one_mul, Int.le_refl, Nat.le_refl, Int.cast_ofNat_Int, Sx.cs, unS_eq, h12, clV, clO]
    refine pwpC_loopU (A := { k : Nat // k ≤ x.tab.length ∧ ∀ j, j < k → (tabK x l I j).lo ≤ (tabK x l I j).hi }) [4, 5, 3, 1, 2, 17] (fun k => [(18, .t (.int .i64 k.1))]) (fun k => [(2, .grow 1 (((tabL x l I k.1).flatMap Span.cs).map .t) 29 2)]) (fun k => x.tab.length - k.1) ⟨0, by omega, fun j hj => by omega⟩ (by decide) (fun _ => by rfl) ?_ fun Q1 hQ1 ⟨k, hk, hkk⟩ I1 hI1 => ?_
    · simp (decide := true) (maxSteps := 4000000) only [go_sem, Nat.reduceAdd, Nat.reduceSub, Nat.reduceMul, Nat.reduceDiv, Nat.reduceMod, Nat.reduceLT, Nat.reduceLeDiff, Nat.reduceEqDiff, Nat.reduceBEq, Nat.reduceBNe, Nat.reduceGT, Int.reduceAdd, Int.reduceSub, Int.reduceMul, Int.reduceNeg, Int.reduceLT, Int.reduceLE, Int.reduceEq, Int.reduceNe, Int.reduceBEq, Int.reduceBNe, Int.reduceToNat, Int.reduceGT, Int.reduceGE, ↓reduceIte, decide_true, decide_false, eq_self, Nat.mul_one, Nat.zero_mul, Nat.one_mul, Int.le_refl, Nat.le_refl, Int.cast_ofNat_Int, tabL_zero]
    · by_cases hlt : (k : Int) < x.tab.length
      · have hkl : k < x.tab.length := by omega
        have hc1 : IntKind.i64.wrap (k + 1) = ((k + 1 : Nat) : Int) := by rw [wrap_in (by omega) (by omega)]; omega
        have hhe := heard_at x l (show k < 12 by omega)
        have hk0 : ¬ (k : Int) < 0 := by omega
        obtain ⟨vs, hvs⟩ : ∃ vs, [rowSp (sumsN x l 0), rowSp (sumsN x l 1), rowSp (sumsN x l 2), rowSp (sumsN x l 3), rowSp (sumsN x l 4), rowSp (sumsN x l 5), rowSp (sumsN x l 6), rowSp (sumsN x l 7), rowSp (sumsN x l 8), rowSp (sumsN x l 9), rowSp (sumsN x l 10), rowSp (sumsN x l 11)] = vs := ⟨_, rfl⟩
        rw [hvs] at hhe hHC'
        have hsb := fun s => sumsN_b h hl (k := k) (s := s)
        have hsl := sumsN_len x l k
        have hset0 := tabL_set0 x l I hkl
        have hsucc := tabL_succ x l I k
        have hLn := tabL_len x l I k
        have hLat := tabL_at x l I hkl
        have hTK : tabK x l I k = accS I (atS x.tab k) (sumsN x l k) := rfl
        have hca := h.tab _ (atS_mem hkl)
        obtain ⟨R, hR⟩ : ∃ R, rowSp (sumsN x l k) = R := ⟨_, rfl⟩
        have hrow := rowSp_row (sumsN x l k)
        rw [hR] at hhe hrow
        obtain ⟨S, hS⟩ : ∃ S, sumsN x l k = S := ⟨_, rfl⟩
        rw [hS] at hsb hsl hrow hTK
        rcases hrow with ⟨rfl, rfl⟩ | ⟨g, rfl⟩
        · simp (decide := true) (maxSteps := 4000000) only [go_sem, Nat.reduceAdd, Nat.reduceSub, Nat.reduceMul, Nat.reduceDiv, Nat.reduceMod, Nat.reduceLT, Nat.reduceLeDiff, Nat.reduceEqDiff, Nat.reduceBEq, Nat.reduceBNe, Nat.reduceGT, Int.reduceAdd, Int.reduceSub, Int.reduceMul, Int.reduceNeg, Int.reduceLT, Int.reduceLE, Int.reduceEq, Int.reduceNe, Int.reduceBEq, Int.reduceBNe, Int.reduceToNat, Int.reduceGT, Int.reduceGE, ↓reduceIte, decide_true, decide_false, eq_self, Nat.mul_one, Nat.zero_mul, Nat.one_mul, Int.le_refl, Nat.le_refl, Int.cast_ofNat_Int, hlt, ← hHC', hhe, Int.toNat_natCast]
          refine pwpC_loopU (A := Unit) [6, 18, 4, 5, 3, 1, 2, 17, 24, 25] (fun _ => [(26, .t (.int .i64 0))]) (fun _ => []) (fun _ => 0) () (by decide) (fun _ => by rfl) ?_ fun Q2 hQ2 _ I2 hI2 => ?_
          · simp (decide := true) (maxSteps := 4000000) only [go_sem, Nat.reduceAdd, Nat.reduceSub, Nat.reduceMul, Nat.reduceDiv, Nat.reduceMod, Nat.reduceLT, Nat.reduceLeDiff, Nat.reduceEqDiff, Nat.reduceBEq, Nat.reduceBNe, Nat.reduceGT, Int.reduceAdd, Int.reduceSub, Int.reduceMul, Int.reduceNeg, Int.reduceLT, Int.reduceLE, Int.reduceEq, Int.reduceNe, Int.reduceBEq, Int.reduceBNe, Int.reduceToNat, Int.reduceGT, Int.reduceGE, ↓reduceIte, decide_true, decide_false, eq_self, Nat.mul_one, Nat.zero_mul, Nat.one_mul, Int.le_refl, Nat.le_refl, Int.cast_ofNat_Int]
          · simp (decide := true) (maxSteps := 4000000) only [go_sem, Nat.reduceAdd, Nat.reduceSub, Nat.reduceMul, Nat.reduceDiv, Nat.reduceMod, Nat.reduceLT, Nat.reduceLeDiff, Nat.reduceEqDiff, Nat.reduceBEq, Nat.reduceBNe, Nat.reduceGT, Int.reduceAdd, Int.reduceSub, Int.reduceMul, Int.reduceNeg, Int.reduceLT, Int.reduceLE, Int.reduceEq, Int.reduceNe, Int.reduceBEq, Int.reduceBNe, Int.reduceToNat, Int.reduceGT, Int.reduceGE, ↓reduceIte, decide_true, decide_false, eq_self, Nat.mul_one, Nat.zero_mul, Nat.one_mul, Int.le_refl, Nat.le_refl, Int.cast_ofNat_Int]
            refine hQ2 _ _ ?_
            have hF := rowF hLn hLat
            have hgt : ¬ (atS x.tab k).lo > (atS x.tab k).hi := by omega
            have hTK' : tabK x l I k = atS x.tab k := hTK
            simp (decide := true) (maxSteps := 4000000) only [go_sem, Nat.reduceAdd, Nat.reduceSub, Nat.reduceMul, Nat.reduceDiv, Nat.reduceMod, Nat.reduceLT, Nat.reduceLeDiff, Nat.reduceEqDiff, Nat.reduceBEq, Nat.reduceBNe, Nat.reduceGT, Int.reduceAdd, Int.reduceSub, Int.reduceMul, Int.reduceNeg, Int.reduceLT, Int.reduceLE, Int.reduceEq, Int.reduceNe, Int.reduceBEq, Int.reduceBNe, Int.reduceToNat, Int.reduceGT, Int.reduceGE, ↓reduceIte, decide_true, decide_false, eq_self, Nat.mul_one, Nat.zero_mul, Nat.one_mul, Int.le_refl, Nat.le_refl, Int.cast_ofNat_Int, hlt, hF.len, hF.len', hF.drop, hF.lo, hF.hi, hF.b, hgt]
            refine hI1 _ ⟨k + 1, by omega, fun j hj => ?_⟩ (by simp only; omega) ?_
            · by_cases e : j = k
              · subst e; rw [hTK']; omega
              · exact hkk j (by omega)
            · simp (decide := true) (maxSteps := 4000000) only [go_sem, Nat.reduceAdd, Nat.reduceSub, Nat.reduceMul, Nat.reduceDiv, Nat.reduceMod, Nat.reduceLT, Nat.reduceLeDiff, Nat.reduceEqDiff, Nat.reduceBEq, Nat.reduceBNe, Nat.reduceGT, Int.reduceAdd, Int.reduceSub, Int.reduceMul, Int.reduceNeg, Int.reduceLT, Int.reduceLE, Int.reduceEq, Int.reduceNe, Int.reduceBEq, Int.reduceBNe, Int.reduceToNat, Int.reduceGT, Int.reduceGE, ↓reduceIte, decide_true, decide_false, eq_self, Nat.mul_one, Nat.zero_mul, Nat.one_mul, Int.le_refl, Nat.le_refl, Int.cast_ofNat_Int, hc1, hsucc, hTK', hset0]
              exact congrArg TV.cptr hHC'
        · simp (decide := true) (maxSteps := 4000000) only [go_sem, Nat.reduceAdd, Nat.reduceSub, Nat.reduceMul, Nat.reduceDiv, Nat.reduceMod, Nat.reduceLT, Nat.reduceLeDiff, Nat.reduceEqDiff, Nat.reduceBEq, Nat.reduceBNe, Nat.reduceGT, Int.reduceAdd, Int.reduceSub, Int.reduceMul, Int.reduceNeg, Int.reduceLT, Int.reduceLE, Int.reduceEq, Int.reduceNe, Int.reduceBEq, Int.reduceBNe, Int.reduceToNat, Int.reduceGT, Int.reduceGE, ↓reduceIte, decide_true, decide_false, eq_self, Nat.mul_one, Nat.zero_mul, Nat.one_mul, Int.le_refl, Nat.le_refl, Int.cast_ofNat_Int, hlt, ← hHC', hhe, Int.toNat_natCast]
          refine pwpC_loopU (A := { j : Nat // j ≤ S.length }) [6, 18, 4, 5, 3, 1, 2, 17, 24, 25] (fun j => [(26, .t (.int .i64 j.1))]) (fun j => [(2, .grow 1 ((((tabL x l I k).set k (accS I (atS x.tab k) (S.take j.1))).flatMap Span.cs).map .t) 29 2)]) (fun j => S.length - j.1) ⟨0, by omega⟩ (by decide) (fun _ => by rfl) ?_ fun Q2 hQ2 ⟨j, hj⟩ I2 hI2 => ?_
          · simp (decide := true) (maxSteps := 4000000) only [go_sem, Nat.reduceAdd, Nat.reduceSub, Nat.reduceMul, Nat.reduceDiv, Nat.reduceMod, Nat.reduceLT, Nat.reduceLeDiff, Nat.reduceEqDiff, Nat.reduceBEq, Nat.reduceBNe, Nat.reduceGT, Int.reduceAdd, Int.reduceSub, Int.reduceMul, Int.reduceNeg, Int.reduceLT, Int.reduceLE, Int.reduceEq, Int.reduceNe, Int.reduceBEq, Int.reduceBNe, Int.reduceToNat, Int.reduceGT, Int.reduceGE, ↓reduceIte, decide_true, decide_false, eq_self, Nat.mul_one, Nat.zero_mul, Nat.one_mul, Int.le_refl, Nat.le_refl, Int.cast_ofNat_Int, accS, List.take_zero, hset0]
          · by_cases hjl : (j : Int) < S.length
            · obtain ⟨s, hs⟩ := get_lt hjl
              have hd := flat_at Span.cs (n := 2) (fun _ => rfl) hs
              have hc2 : IntKind.i64.wrap (j + 1) = ((j + 1 : Nat) : Int) := by rw [wrap_in (by omega) (by omega)]; omega
              have hac := accS_take (i := I) (c := atS x.tab k) hs
              obtain ⟨A, hA⟩ : ∃ A, accS I (atS x.tab k) (S.take j) = A := ⟨_, rfl⟩
              rw [hA] at hac
              have hF := rowF (C := (tabL x l I k).set k A) (A := A) (by rw [List.length_set, hLn]) (by rw [List.getElem?_set_self (by omega)])
              have hsbs := hsb s (List.mem_of_getElem? hs)
              have w3 : IntKind.i64.wrap (0 - I) = -I := by rw [wrap_in (by omega) (by omega)]; omega
              have hbd : [s, ⟨-I, -I⟩].all bdB = true := by
                have b1 : bdB s = true := bdB_iff.2 (by omega)
                have b2 : bdB ⟨-I, -I⟩ = true := bdB_iff.2 (by simp only; omega)
                simp [b1, b2]
              have hsm : sumL [s, ⟨-I, -I⟩] = ⟨s.lo - I, s.hi - I⟩ := by simp only [sumL, addS, List.foldl_cons, List.foldl_nil]; congr 1 <;> omega
              have hun : unS [.int .i64 s.lo, .int .i64 s.hi, .int .i64 (-I), .int .i64 (-I)] = some [s, ⟨-I, -I⟩] := unS_eq [s, ⟨-I, -I⟩]
              simp (decide := true) (maxSteps := 4000000) only [go_sem, Nat.reduceAdd, Nat.reduceSub, Nat.reduceMul, Nat.reduceDiv, Nat.reduceMod, Nat.reduceLT, Nat.reduceLeDiff, Nat.reduceEqDiff, Nat.reduceBEq, Nat.reduceBNe, Nat.reduceGT, Int.reduceAdd, Int.reduceSub, Int.reduceMul, Int.reduceNeg, Int.reduceLT, Int.reduceLE, Int.reduceEq, Int.reduceNe, Int.reduceBEq, Int.reduceBNe, Int.reduceToNat, Int.reduceGT, Int.reduceGE, ↓reduceIte, decide_true, decide_false, eq_self, Nat.mul_one, Nat.zero_mul, Nat.one_mul, Int.le_refl, Nat.le_refl, Int.cast_ofNat_Int, hjl, hd, Span.cs, hlt, hA, hF.len, hF.len', hF.drop, hF.lo, hF.hi, hF.b, hF.set, w3, hbd, hsm, hun, Span.t]
              refine hI2 _ ⟨j + 1, by omega⟩ (by simp only; omega) ?_
              simp (decide := true) (maxSteps := 4000000) only [go_sem, Nat.reduceAdd, Nat.reduceSub, Nat.reduceMul, Nat.reduceDiv, Nat.reduceMod, Nat.reduceLT, Nat.reduceLeDiff, Nat.reduceEqDiff, Nat.reduceBEq, Nat.reduceBNe, Nat.reduceGT, Int.reduceAdd, Int.reduceSub, Int.reduceMul, Int.reduceNeg, Int.reduceLT, Int.reduceLE, Int.reduceEq, Int.reduceNe, Int.reduceBEq, Int.reduceBNe, Int.reduceToNat, Int.reduceGT, Int.reduceGE, ↓reduceIte, decide_true, decide_false, eq_self, Nat.mul_one, Nat.zero_mul, Nat.one_mul, Int.le_refl, Nat.le_refl, Int.cast_ofNat_Int, hc2, hac, List.set_set]
              done
            · have hje : j = S.length := by omega
              subst hje
              simp (decide := true) (maxSteps := 4000000) only [go_sem, Nat.reduceAdd, Nat.reduceSub, Nat.reduceMul, Nat.reduceDiv, Nat.reduceMod, Nat.reduceLT, Nat.reduceLeDiff, Nat.reduceEqDiff, Nat.reduceBEq, Nat.reduceBNe, Nat.reduceGT, Int.reduceAdd, Int.reduceSub, Int.reduceMul, Int.reduceNeg, Int.reduceLT, Int.reduceLE, Int.reduceEq, Int.reduceNe, Int.reduceBEq, Int.reduceBNe, Int.reduceToNat, Int.reduceGT, Int.reduceGE, ↓reduceIte, decide_true, decide_false, eq_self, Nat.mul_one, Nat.zero_mul, Nat.one_mul, Int.le_refl, Nat.le_refl, Int.cast_ofNat_Int, hjl]
              refine hQ2 _ _ ?_
              rw [List.take_length, ← hTK]
              have hF := rowF (C := (tabL x l I k).set k (tabK x l I k)) (A := tabK x l I k) (by rw [List.length_set, hLn]) (by rw [List.getElem?_set_self (by omega)])
              rw [← hsucc] at hF ⊢
              by_cases hgt : (tabK x l I k).lo > (tabK x l I k).hi
              · have hPf : P = false := by
                  rw [hok]
                  cases ht : okT x l I with
                  | false => rfl
                  | true =>
                    unfold okT at ht
                    have := List.all_eq_true.1 ht k (List.mem_range.2 hkl)
                    simp at this; omega
                have hq := hq5.2 hPf
                rw [hPf] at hcs
                simp (decide := true) (maxSteps := 4000000) only [go_sem, Nat.reduceAdd, Nat.reduceSub, Nat.reduceMul, Nat.reduceDiv, Nat.reduceMod, Nat.reduceLT, Nat.reduceLeDiff, Nat.reduceEqDiff, Nat.reduceBEq, Nat.reduceBNe, Nat.reduceGT, Int.reduceAdd, Int.reduceSub, Int.reduceMul, Int.reduceNeg, Int.reduceLT, Int.reduceLE, Int.reduceEq, Int.reduceNe, Int.reduceBEq, Int.reduceBNe, Int.reduceToNat, Int.reduceGT, Int.reduceGE, ↓reduceIte, decide_true, decide_false, eq_self, Nat.mul_one, Nat.zero_mul, Nat.one_mul, Int.le_refl, Nat.le_refl, Int.cast_ofNat_Int, hlt, hF.len, hF.len', hF.drop, hF.lo, hF.hi, hF.b, hgt]
                refine hQ1 _ _ ?_
                simp (decide := true) (maxSteps := 4000000) only [go_sem, Nat.reduceAdd, Nat.reduceSub, Nat.reduceMul, Nat.reduceDiv, Nat.reduceMod, Nat.reduceLT, Nat.reduceLeDiff, Nat.reduceEqDiff, Nat.reduceBEq, Nat.reduceBNe, Nat.reduceGT, Int.reduceAdd, Int.reduceSub, Int.reduceMul, Int.reduceNeg, Int.reduceLT, Int.reduceLE, Int.reduceEq, Int.reduceNe, Int.reduceBEq, Int.reduceBNe, Int.reduceToNat, Int.reduceGT, Int.reduceGE, ↓reduceIte, decide_true, decide_false, eq_self, Nat.mul_one, Nat.zero_mul, Nat.one_mul, Int.le_refl, Nat.le_refl, Int.cast_ofNat_Int, hq, hcs]
                done
              · simp (decide := true) (maxSteps := 4000000) only [go_sem, Nat.reduceAdd, Nat.reduceSub, Nat.reduceMul, Nat.reduceDiv, Nat.reduceMod, Nat.reduceLT, Nat.reduceLeDiff, Nat.reduceEqDiff, Nat.reduceBEq, Nat.reduceBNe, Nat.reduceGT, Int.reduceAdd, Int.reduceSub, Int.reduceMul, Int.reduceNeg, Int.reduceLT, Int.reduceLE, Int.reduceEq, Int.reduceNe, Int.reduceBEq, Int.reduceBNe, Int.reduceToNat, Int.reduceGT, Int.reduceGE, ↓reduceIte, decide_true, decide_false, eq_self, Nat.mul_one, Nat.zero_mul, Nat.one_mul, Int.le_refl, Nat.le_refl, Int.cast_ofNat_Int, hlt, hF.len, hF.len', hF.drop, hF.lo, hF.hi, hF.b, hgt]
                refine hI1 _ ⟨k + 1, by omega, fun j hj => ?_⟩ (by simp only; omega) ?_
                · by_cases e : j = k
                  · subst e; omega
                  · exact hkk j (by omega)
                · simp (decide := true) (maxSteps := 4000000) only [go_sem, Nat.reduceAdd, Nat.reduceSub, Nat.reduceMul, Nat.reduceDiv, Nat.reduceMod, Nat.reduceLT, Nat.reduceLeDiff, Nat.reduceEqDiff, Nat.reduceBEq, Nat.reduceBNe, Nat.reduceGT, Int.reduceAdd, Int.reduceSub, Int.reduceMul, Int.reduceNeg, Int.reduceLT, Int.reduceLE, Int.reduceEq, Int.reduceNe, Int.reduceBEq, Int.reduceBNe, Int.reduceToNat, Int.reduceGT, Int.reduceGE, ↓reduceIte, decide_true, decide_false, eq_self, Nat.mul_one, Nat.zero_mul, Nat.one_mul, Int.le_refl, Nat.le_refl, Int.cast_ofNat_Int, hc1]
                  exact congrArg TV.cptr hHC'
      · have hke : k = x.tab.length := by omega
        subst hke
        have hPt : P = true := by
          rw [hok]
          unfold okT
          exact List.all_eq_true.2 fun j hj => decide_eq_true (hkk j (List.mem_range.1 hj))
        obtain ⟨hq1, hq2⟩ := hq5.1 hPt
        have hat' := hat hPt
        rw [hPt] at hcs
        have hfr : (tabR x l I).length = x.tab.length := tabR_len _ _ _
        have hflr : (List.flatMap Span.cs (tabR x l I)).length = x.tab.length * 2 := by rw [flat_len Span.cs (n := 2) (fun _ => rfl), hfr]
        simp (decide := true) (maxSteps := 4000000) only [go_sem, Nat.reduceAdd, Nat.reduceSub, Nat.reduceMul, Nat.reduceDiv, Nat.reduceMod, Nat.reduceLT, Nat.reduceLeDiff, Nat.reduceEqDiff, Nat.reduceBEq, Nat.reduceBNe, Nat.reduceGT, Int.reduceAdd, Int.reduceSub, Int.reduceMul, Int.reduceNeg, Int.reduceLT, Int.reduceLE, Int.reduceEq, Int.reduceNe, Int.reduceBEq, Int.reduceBNe, Int.reduceToNat, Int.reduceGT, Int.reduceGE, ↓reduceIte, decide_true, decide_false, eq_self, Nat.mul_one, Nat.zero_mul, Nat.one_mul, Int.le_refl, Nat.le_refl, Int.cast_ofNat_Int, hlt]
        refine hQ1 _ _ ?_
        have htk : List.take (x.tab.length * 2) ((tabR x l I).flatMap Span.cs) = (tabR x l I).flatMap Span.cs := List.take_of_length_le (by omega)
        have hlm : (List.map PV.t ((tabR x l I).flatMap Span.cs)).length = x.tab.length * 2 := by rw [List.length_map, hflr]
        have hn0 : ¬ x.tab.length = 0 := by omega
        simp (decide := true) (maxSteps := 4000000) only [go_sem, Nat.reduceAdd, Nat.reduceSub, Nat.reduceMul, Nat.reduceDiv, Nat.reduceMod, Nat.reduceLT, Nat.reduceLeDiff, Nat.reduceEqDiff, Nat.reduceBEq, Nat.reduceBNe, Nat.reduceGT, Int.reduceAdd, Int.reduceSub, Int.reduceMul, Int.reduceNeg, Int.reduceLT, Int.reduceLE, Int.reduceEq, Int.reduceNe, Int.reduceBEq, Int.reduceBNe, Int.reduceToNat, Int.reduceGT, Int.reduceGE, ↓reduceIte, decide_true, decide_false, eq_self, Nat.mul_one, Nat.zero_mul, Nat.one_mul, Int.le_refl, Nat.le_refl, Int.cast_ofNat_Int, tabL_end, freezeW, freezeO, closedG, seenF, wr, upo, htk, hflr, hlm, hat', hq1, hq2, hn0, Nat.zero_add, List.drop_zero]
        simp only [if_true] at hcs
        by_cases hst : stop = true ∧ i + 1 = m
        · simp only [if_pos hst, if_pos hst.1, decide_eq_true hst]
          simp (decide := true) (maxSteps := 4000000) only [go_sem, Nat.reduceAdd, Nat.reduceSub, Nat.reduceMul, Nat.reduceDiv, Nat.reduceMod, Nat.reduceLT, Nat.reduceLeDiff, Nat.reduceEqDiff, Nat.reduceBEq, Nat.reduceBNe, Nat.reduceGT, Int.reduceAdd, Int.reduceSub, Int.reduceMul, Int.reduceNeg, Int.reduceLT, Int.reduceLE, Int.reduceEq, Int.reduceNe, Int.reduceBEq, Int.reduceBNe, Int.reduceToNat, Int.reduceGT, Int.reduceGE, ↓reduceIte, decide_true, decide_false, eq_self, Nat.mul_one, Nat.zero_mul, Nat.one_mul, Int.le_refl, Nat.le_refl, Int.cast_ofNat_Int, hcs]
          done
        · simp only [if_neg hst, decide_eq_false hst]
          simp (decide := true) (maxSteps := 4000000) only [go_sem, Nat.reduceAdd, Nat.reduceSub, Nat.reduceMul, Nat.reduceDiv, Nat.reduceMod, Nat.reduceLT, Nat.reduceLeDiff, Nat.reduceEqDiff, Nat.reduceBEq, Nat.reduceBNe, Nat.reduceGT, Int.reduceAdd, Int.reduceSub, Int.reduceMul, Int.reduceNeg, Int.reduceLT, Int.reduceLE, Int.reduceEq, Int.reduceNe, Int.reduceBEq, Int.reduceBNe, Int.reduceToNat, Int.reduceGT, Int.reduceGE, ↓reduceIte, decide_true, decide_false, eq_self, Nat.mul_one, Nat.zero_mul, Nat.one_mul, Int.le_refl, Nat.le_refl, Int.cast_ofNat_Int, hcs]
          done
  · simp (decide := true) (maxSteps := 4000000) only [go_sem, Nat.reduceAdd, Nat.reduceSub, Nat.reduceMul, Nat.reduceDiv, Nat.reduceMod, Nat.reduceLT, Nat.reduceLeDiff, Nat.reduceEqDiff, Nat.reduceBEq, Nat.reduceBNe, Nat.reduceGT, Int.reduceAdd, Int.reduceSub, Int.reduceMul, Int.reduceNeg, Int.reduceLT, Int.reduceLE, Int.reduceEq, Int.reduceNe, Int.reduceBEq, Int.reduceBNe, Int.reduceToNat, Int.reduceGT, Int.reduceGE, ↓reduceIte, decide_true, decide_false, eq_self, Nat.mul_one, Nat.zero_mul, Nat.one_mul, Int.le_refl, Nat.le_refl, Int.cast_ofNat_Int, q4]
    cases stop <;> simp (decide := true) (maxSteps := 4000000) only [go_sem, Nat.reduceAdd, Nat.reduceSub, Nat.reduceMul, Nat.reduceDiv, Nat.reduceMod, Nat.reduceLT, Nat.reduceLeDiff, Nat.reduceEqDiff, Nat.reduceBEq, Nat.reduceBNe, Nat.reduceGT, Int.reduceAdd, Int.reduceSub, Int.reduceMul, Int.reduceNeg, Int.reduceLT, Int.reduceLE, Int.reduceEq, Int.reduceNe, Int.reduceBEq, Int.reduceBNe, Int.reduceToNat, Int.reduceGT, Int.reduceGE, ↓reduceIte, decide_true, decide_false, eq_self, Nat.mul_one, Nat.zero_mul, Nat.one_mul, Int.le_refl, Nat.le_refl, Int.cast_ofNat_Int]
end Go.Proofs.Ytadkjjnnnkfalaa.Sx

/- Part Sm. -/
namespace Go.Proofs.Ytadkjjnnnkfalaa.Sx
end Go.Proofs.Ytadkjjnnnkfalaa.Sx
namespace Go.Os
open Go Go.Pm Go.Oc Go.Oh
def noAt (x : Sx) (l : List Tr) : Bool := !(List.range 12).any (atN x l)
theorem noAt_is (x : Sx) (l : List Tr) : (!atN x l 0 && (!atN x l 1 && (!atN x l 2 && (!atN x l 3 && (!atN x l 4 && (!atN x l 5 && (!atN x l 6 && (!atN x l 7 && (!atN x l 8 && (!atN x l 9 && (!atN x l 10 && !atN x l 11))))))))))) = noAt x l := by
  unfold noAt; rw [show List.range 12 = [0, 1, 2, 3, 4, 5, 6, 7, 8, 9, 10, 11] from rfl]; simp [List.any_cons]
def canB (x : Sx) (l : List Tr) : Bool := noAt x l || decide (0 < cntT (okI x l) (idxN x))
theorem tabsV_len (x : Sx) (l : List Tr) : (tabsV x l).length = cntT (okI x l) (idxN x) := by simp [tabsV, cntT]
theorem heardT_is (x : Sx) (l : List Tr) : ∃ vs, heardT x l = .agg [.bool (atN x l 0), .bool (atN x l 1), .bool (atN x l 2), .bool (atN x l 3), .bool (atN x l 4), .bool (atN x l 5), .bool (atN x l 6), .bool (atN x l 7), .bool (atN x l 8), .bool (atN x l 9), .bool (atN x l 10), .bool (atN x l 11), .imap 197 vs] ∧
    heardC x l = [.bool (atN x l 0), .bool (atN x l 1), .bool (atN x l 2), .bool (atN x l 3), .bool (atN x l 4), .bool (atN x l 5), .bool (atN x l 6), .bool (atN x l 7), .bool (atN x l 8), .bool (atN x l 9), .bool (atN x l 10), .bool (atN x l 11), .imap 197 vs] := ⟨_, rfl, rfl⟩
end Go.Os
namespace Go.Proofs.Ytadkjjnnnkfalaa.Sx
open Go.RowKit Go.Pm Go.Oc Go.Oh Go.Os
set_option maxRecDepth 100000
set_option linter.unusedVariables false
set_option maxHeartbeats 8000000

noncomputable def sxHeard : List TV → Option TV
  | [.agg [.int .i64 a0, sT, .int .i64 a1, .int .i64 a2, .int .i64 a3, sS], s] => match rowL unS sT, rowL unS sS, rowL unTr s with
    | some tab, some shade, some l => if sxOk (⟨a0, tab, ⟨a1, a2⟩, a3, shade⟩ : Sx) = true ∧ l.all (trB (⟨a0, tab, ⟨a1, a2⟩, a3, shade⟩ : Sx)) = true ∧ l.length ≤ 8 then some (heardT (⟨a0, tab, ⟨a1, a2⟩, a3, shade⟩ : Sx) l) else none
    | _, _, _ => none
  | _ => none
theorem sxHeard_ok : ∀ xs r, sxHeard xs = some r → PCalls Try.prog 88 xs r := by
  intro xs r h
  unfold sxHeard at h
  split at h
  · split at h
    · rename_i tab shade l hT hS hl
      have hT := rowL_some (un := unS) unS_nil (@unS_some) hT
      have hS := rowL_some (un := unS) unS_nil (@unS_some) hS
      have hl := rowL_some (un := unTr) unTr_nil (@unTr_some) hl
      split at h
      · rename_i hc; cases h; exact sHeard_c ⟨_, tab, ⟨_, _⟩, _, shade⟩ hT hS hc.1 hl hc.2.1 hc.2.2
      · cases h
    · cases h
  · cases h
attribute [go_sem] sxHeard
noncomputable def sxOpened : List TV → Option TV
  | [.agg [.int .i64 a0, sT, .int .i64 a1, .int .i64 a2, .int .i64 a3, sS], s] => match rowL unS sT, rowL unS sS, rowL unTr s with
    | some tab, some shade, some l => if tab.length ≤ 9000000000000 ∧ shade.length ≤ 9000000000000 ∧ l.length ≤ 9000000000000 then some (.tup [openedT (⟨a0, tab, ⟨a1, a2⟩, a3, shade⟩ : Sx) sT sS, .int .i64 (openedE (⟨a0, tab, ⟨a1, a2⟩, a3, shade⟩ : Sx) l)]) else none
    | _, _, _ => none
  | _ => none
theorem sxOpened_ok : ∀ xs r, sxOpened xs = some r → PCalls Try.prog 86 xs r := by
  intro xs r h
  unfold sxOpened at h
  split at h
  · split at h
    · rename_i tab shade l hT hS hl
      have hT := rowL_some (un := unS) unS_nil (@unS_some) hT
      have hS := rowL_some (un := unS) unS_nil (@unS_some) hS
      have hl := rowL_some (un := unTr) unTr_nil (@unTr_some) hl
      split at h
      · rename_i hc; cases h; exact sOpened_c ⟨_, tab, ⟨_, _⟩, _, shade⟩ hT hS hc.1 hc.2.1 hl hc.2.2
      · cases h
    · cases h
  · cases h
attribute [go_sem] sxOpened
noncomputable def spMa : Pm.Spec := ((noSpec.one 88 sxHeard).one 87 sxTables)
@[go_sem] theorem spMa_p (f : FuncId) (xs : List TV) : spMa.p f xs = Pm.Spec.p (((noSpec.one 88 sxHeard).one 87 sxTables)) f xs := rfl
@[go_sem] theorem spMa_h (f : FuncId) (ps : List PV) (hl : List PO) : spMa.h f ps hl = Pm.Spec.h (((noSpec.one 88 sxHeard).one 87 sxTables)) f ps hl := rfl
@[go_sem] theorem spMa_y (Y : Pm.YS) (f : FuncId) (ps : List PV) (hl : List PO) : spMa.y Y f ps hl = Pm.Spec.y (((noSpec.one 88 sxHeard).one 87 sxTables)) Y f ps hl := rfl
@[go_sem] theorem spMa_fz (f : FuncId) : spMa.fz f = Pm.Spec.fz (((noSpec.one 88 sxHeard).one 87 sxTables)) f := rfl
@[go_sem] theorem spMa_fr (f : FuncId) : spMa.fr f = Pm.Spec.fr (((noSpec.one 88 sxHeard).one 87 sxTables)) f := rfl
@[go_sem] theorem spMa_yf (f : FuncId) : spMa.yf f = Pm.Spec.yf (((noSpec.one 88 sxHeard).one 87 sxTables)) f := rfl
@[go_sem] theorem spMa_mu (t : TypeId) : spMa.mu t = Pm.Spec.mu (((noSpec.one 88 sxHeard).one 87 sxTables)) t := rfl
@[go_sem] theorem spMa_nf (t : TypeId) : spMa.nf t = Pm.Spec.nf (((noSpec.one 88 sxHeard).one 87 sxTables)) t := rfl
theorem spMa_ok : SpecOk Try.prog spMa := Spec.one_ok sxTables_ok (Spec.one_ok sxHeard_ok noSpec_ok)
end Go.Proofs.Ytadkjjnnnkfalaa.Sx

/- Part Sn. -/
namespace Go.Proofs.Ytadkjjnnnkfalaa.Sx
end Go.Proofs.Ytadkjjnnnkfalaa.Sx
namespace Go.Os
open Go Go.Pm Go.Oc Go.Oh
def wid2 (a c : Span) : Span := if c = a then a else widerS (widerS a c.lo false) c.hi false
theorem set_same {α : Type} {l : List α} {k : Nat} {a : α} (h : l[k]? = some a) : l.set k a = l := by
  refine List.ext_getElem? fun j => ?_
  rw [List.getElem?_set]
  split
  · rename_i e; subst e; split
    · exact h.symm
    · rename_i hn; rw [h]; exact absurd (List.getElem?_eq_some_iff.1 h).1 hn
  · rfl
def zipW (L T : List Span) : List Span := List.zipWith wid2 L T
def zipK (L T : List Span) (k : Nat) : List Span := zipW (L.take k) (T.take k) ++ L.drop k
theorem zipK_zero (L T : List Span) : zipK L T 0 = L := by simp [zipK, zipW]
theorem zipK_end {L T : List Span} (h : L.length = T.length) : zipK L T T.length = zipW L T := by
  unfold zipK; rw [← h, List.take_length, h, List.take_length, ← h, List.drop_length, List.append_nil]
theorem zipK_len {L T : List Span} (h : L.length = T.length) {k : Nat} (hk : k ≤ T.length) : (zipK L T k).length = T.length := by
  simp [zipK, zipW, List.length_zipWith, List.length_take, List.length_drop]; omega
theorem zipK_at {L T : List Span} (h : L.length = T.length) {k : Nat} (hk : k < T.length) : (zipK L T k)[k]? = L[k]? := by
  unfold zipK
  have h1 : (zipW (L.take k) (T.take k)).length = k := by simp [zipW, List.length_zipWith, List.length_take]; omega
  rw [List.getElem?_append_right (by omega), h1, Nat.sub_self, List.getElem?_drop, Nat.add_zero]
theorem zipK_succ {L T : List Span} (h : L.length = T.length) {k : Nat} {a c : Span} (ha : L[k]? = some a) (hc : T[k]? = some c) : zipK L T (k + 1) = (zipK L T k).set k (wid2 a c) := by
  have hk := (List.getElem?_eq_some_iff.1 hc).1
  have h1 : (zipW (L.take k) (T.take k)).length = k := by simp [zipW, List.length_zipWith, List.length_take]; omega
  have h3 : L.drop k = a :: L.drop (k + 1) := by
    rw [List.drop_eq_getElem_cons (by omega)]
    congr 1
    exact (List.getElem?_eq_some_iff.1 ha).2
  unfold zipK
  rw [take_snoc ha, take_snoc hc]
  have h2 : zipW (L.take k ++ [a]) (T.take k ++ [c]) = zipW (L.take k) (T.take k) ++ [wid2 a c] := by
    unfold zipW
    rw [List.zipWith_append (by simp [List.length_take]; omega)]
    rfl
  rw [h2, List.set_append_right _ _ (by omega), h1, Nat.sub_self, h3]
  simp
theorem zipW_self (T : List Span) : zipW T T = T := by
  unfold zipW
  induction T with
  | nil => rfl
  | cons t T ih => simp [wid2, ih]
/-- What is left so many tables on. -/
def tabsN (x : Sx) (l : List Tr) : List Nat := (List.range (idxN x)).filter (okI x l)
def trIx (x : Sx) (l : List Tr) (i : Nat) : Int := x.idx.lo + ((tabsN x l).getD i 0 : Int)
def trLeft (x : Sx) (l : List Tr) : Nat → List Span
  | 0 => []
  | i + 1 => zipW (if i = 0 then tabR x l (trIx x l i) else trLeft x l i) (tabR x l (trIx x l i))
def trIdx (x : Sx) (l : List Tr) : Nat → Span
  | 0 => ⟨0, 0⟩
  | i + 1 => widerS (trIdx x l i) (trIx x l i) (decide (i = 0))
theorem trLeft_len (x : Sx) (l : List Tr) : ∀ i, (trLeft x l (i + 1)).length = x.tab.length
  | 0 => by simp [trLeft, zipW, List.length_zipWith, tabR_len]
  | i + 1 => by
    have := trLeft_len x l i
    rw [trLeft, if_neg (by omega)]
    simp [zipW, List.length_zipWith, tabR_len, this]
theorem tabsV_is (x : Sx) (l : List Tr) {i : Nat} {v : List TV} (h : (tabsV x l)[i]? = some v) : v = [.int .i64 (trIx x l i), .sl ((tabR x l (trIx x l i)).flatMap Span.cs) x.tab.length false] := by
  unfold tabsV at h
  rw [List.getElem?_map] at h
  cases hj : ((List.range (idxN x)).filter (okI x l))[i]? with
  | none => rw [hj] at h; cases h
  | some j =>
    rw [hj] at h
    cases h
    have : trIx x l i = x.idx.lo + (j : Int) := by unfold trIx tabsN; rw [List.getD_eq_getElem?_getD, hj]; rfl
    rw [this]
def rowF1 (l : List Span) : TV := if l.length = 0 then .nilSl else .sl (l.flatMap Span.cs) l.length true
/-- What Trial returns. -/
def trialP (x : Sx) (l : List Tr) : List Span × Span × Int :=
  if openedE x l = 0 then (if (tabsV x l).length = 0 then ([], ⟨0, 0⟩, 54) else (trLeft x l (tabsV x l).length, trIdx x l (tabsV x l).length, 0)) else ([], ⟨0, 0⟩, openedE x l)
end Go.Os
namespace Go.Proofs.Ytadkjjnnnkfalaa.Sx
open Go.RowKit Go.Pm Go.Oc Go.Oh Go.Os
set_option maxRecDepth 100000
set_option linter.unusedVariables false
set_option maxHeartbeats 8000000

noncomputable def spNa : Pm.Spec := Spec.oneH 89 sxClone ((((noSpec.one 88 sxHeard).one 87 sxTables).one 86 sxOpened).one 90 sxWider)
@[go_sem] theorem spNa_p (f : FuncId) (xs : List TV) : spNa.p f xs = Pm.Spec.p (Spec.oneH 89 sxClone ((((noSpec.one 88 sxHeard).one 87 sxTables).one 86 sxOpened).one 90 sxWider)) f xs := rfl
@[go_sem] theorem spNa_h (f : FuncId) (ps : List PV) (hl : List PO) : spNa.h f ps hl = Pm.Spec.h (Spec.oneH 89 sxClone ((((noSpec.one 88 sxHeard).one 87 sxTables).one 86 sxOpened).one 90 sxWider)) f ps hl := rfl
@[go_sem] theorem spNa_y (Y : Pm.YS) (f : FuncId) (ps : List PV) (hl : List PO) : spNa.y Y f ps hl = Pm.Spec.y (Spec.oneH 89 sxClone ((((noSpec.one 88 sxHeard).one 87 sxTables).one 86 sxOpened).one 90 sxWider)) Y f ps hl := rfl
@[go_sem] theorem spNa_fz (f : FuncId) : spNa.fz f = Pm.Spec.fz (Spec.oneH 89 sxClone ((((noSpec.one 88 sxHeard).one 87 sxTables).one 86 sxOpened).one 90 sxWider)) f := rfl
@[go_sem] theorem spNa_fr (f : FuncId) : spNa.fr f = Pm.Spec.fr (Spec.oneH 89 sxClone ((((noSpec.one 88 sxHeard).one 87 sxTables).one 86 sxOpened).one 90 sxWider)) f := rfl
@[go_sem] theorem spNa_yf (f : FuncId) : spNa.yf f = Pm.Spec.yf (Spec.oneH 89 sxClone ((((noSpec.one 88 sxHeard).one 87 sxTables).one 86 sxOpened).one 90 sxWider)) f := rfl
@[go_sem] theorem spNa_mu (t : TypeId) : spNa.mu t = Pm.Spec.mu (Spec.oneH 89 sxClone ((((noSpec.one 88 sxHeard).one 87 sxTables).one 86 sxOpened).one 90 sxWider)) t := rfl
@[go_sem] theorem spNa_nf (t : TypeId) : spNa.nf t = Pm.Spec.nf (Spec.oneH 89 sxClone ((((noSpec.one 88 sxHeard).one 87 sxTables).one 86 sxOpened).one 90 sxWider)) t := rfl
theorem spNa_ok : SpecOk Try.prog spNa := Spec.oneH_ok sxClone_ok (Spec.one_ok sxWider_ok (Spec.one_ok sxOpened_ok (Spec.one_ok sxTables_ok (Spec.one_ok sxHeard_ok noSpec_ok))))
theorem sTrial_c (x : Sx) {sT sS : TV} (hT : IsRow Span.cs sT x.tab) (hS : IsRow Span.cs sS x.shade) (lT : x.tab.length ≤ 9000000000000) (lS : x.shade.length ≤ 9000000000000) {l : List Tr} {s : TV} (hs : IsRow Tr.cs s l) (ll : l.length ≤ 9000000000000) :
    PCalls Try.prog 45 [x.t sT sS, s] (.tup [rowF1 (trialP x l).1, (trialP x l).2.1.t, .int .i64 (trialP x l).2.2]) := by
  have rT := rowS_is hT
  have rS := rowS_is hS
  have rs := rowTr_is hs
  unfold rowL at rT rS rs
  simp only [unS_nil] at rT rS
  simp only [unTr_nil] at rs
  have e0 : Sx.mk x.step x.tab ⟨x.idx.lo, x.idx.hi⟩ x.wrong x.shade = x := rfl
  refine pcalls_by Try.mixes spNa_ok (fn := Try.f45) Try.func45 rfl (by kernel_rfl) (by show 2 ≤ _; decide) ?_
  unfold trialP
  cases hv : sxOk x with
  | false =>
    have hE : openedE x l = 50 := by unfold openedE; rw [hv]; rfl
    have hO : openedT x sT sS = .agg [.int .i64 0, .nilSl, .int .i64 0, .int .i64 0, .int .i64 0, .nilSl] := by unfold openedT; rw [hv]; rfl
    have b : ((50 : Int) != 0) = true := rfl
    simp (decide := true) (maxSteps := 4000000) only [go_sem, Nat.reduceAdd, Nat.reduceSub, Nat.reduceMul, Nat.reduceDiv, Nat.reduceMod, Nat.reduceLT, Nat.reduceLeDiff, Nat.reduceEqDiff, Nat.reduceBEq, Nat.reduceBNe, Nat.reduceGT, Int.reduceAdd, Int.reduceSub, Int.reduceMul, Int.reduceNeg, Int.reduceLT, Int.reduceLE, Int.reduceEq, Int.reduceNe, Int.reduceBEq, Int.reduceBNe, Int.reduceToNat, Int.reduceGT, Int.reduceGE, ↓reduceIte, decide_true, decide_false, eq_self, Nat.mul_one, Nat.zero_mul, Nat.one_mul, Int.le_refl, Nat.le_refl, Int.cast_ofNat_Int, Try.f45, Sx.t, Sx.cs, rT, rS, rs, lT, lS, ll, e0, hE, hO, b, rowF1, List.length_nil, Span.t, Span.cs]
  | true =>
    have hO : openedT x sT sS = x.t sT sS := by unfold openedT; rw [hv]; rfl
    cases htr : trsOk x l with
    | false =>
      have hE : openedE x l = 53 := by unfold openedE; rw [hv, htr]; rfl
      have b : ((53 : Int) != 0) = true := rfl
      simp (decide := true) (maxSteps := 4000000) only [go_sem, Nat.reduceAdd, Nat.reduceSub, Nat.reduceMul, Nat.reduceDiv, Nat.reduceMod, Nat.reduceLT, Nat.reduceLeDiff, Nat.reduceEqDiff, Nat.reduceBEq, Nat.reduceBNe, Nat.reduceGT, Int.reduceAdd, Int.reduceSub, Int.reduceMul, Int.reduceNeg, Int.reduceLT, Int.reduceLE, Int.reduceEq, Int.reduceNe, Int.reduceBEq, Int.reduceBNe, Int.reduceToNat, Int.reduceGT, Int.reduceGE, ↓reduceIte, decide_true, decide_false, eq_self, Nat.mul_one, Nat.zero_mul, Nat.one_mul, Int.le_refl, Nat.le_refl, Int.cast_ofNat_Int, Try.f45, Sx.t, Sx.cs, rT, rS, rs, lT, lS, ll, e0, hE, hO, b, rowF1, List.length_nil, Span.t, Span.cs]
    | true =>
      have hE : openedE x l = 0 := by unfold openedE; rw [hv, htr]; rfl
      have b : ((0 : Int) != 0) = false := rfl
      have h := sxOk_iff.1 hv
      have hi := h.idx
      have htr' := htr
      unfold trsOk at htr'
      rw [Bool.and_eq_true, inB_iff] at htr'
      have hl := htr'.2
      have h8 : l.length ≤ 8 := by omega
      have hIt := sTablesI_c x (sS := sS) hT hv hl h8
      obtain ⟨vs, hh, hh'⟩ := heardT_is x l
      obtain ⟨f, rfl⟩ := good_T h hT
      have rT := unS_eq x.tab
      simp (decide := true) (maxSteps := 4000000) only [go_sem, Nat.reduceAdd, Nat.reduceSub, Nat.reduceMul, Nat.reduceDiv, Nat.reduceMod, Nat.reduceLT, Nat.reduceLeDiff, Nat.reduceEqDiff, Nat.reduceBEq, Nat.reduceBNe, Nat.reduceGT, Int.reduceAdd, Int.reduceSub, Int.reduceMul, Int.reduceNeg, Int.reduceLT, Int.reduceLE, Int.reduceEq, Int.reduceNe, Int.reduceBEq, Int.reduceBNe, Int.reduceToNat, Int.reduceGT, Int.reduceGE, ↓reduceIte, decide_true, decide_false, eq_self, Nat.mul_one, Nat.zero_mul, Nat.one_mul, Int.le_refl, Nat.le_refl, Int.cast_ofNat_Int, Try.f45, Sx.t, Sx.cs, rT, rS, rs, lT, lS, ll, e0, hE, hO, b, hv, hl, h8, hh]
      obtain ⟨HC, hHC⟩ : ∃ HC, heardC x l = HC := ⟨_, rfl⟩
      rw [hHC] at hIt
      have hHC' := hh'.symm.trans hHC
      have hl2 : ∀ v ∈ tabsV x l, v.length = 2 := fun v hv => by
        unfold tabsV at hv
        obtain ⟨y, _, rfl⟩ := List.mem_map.1 hv
        rfl
      have hlen := h.len
      have hflr : ∀ I, (List.flatMap Span.cs (tabR x l I)).length = x.tab.length * 2 := fun I => by rw [flat_len Span.cs (n := 2) (fun _ => rfl), tabR_len]
      obtain ⟨N, hN⟩ : ∃ N, (tabsV x l).length = N := ⟨_, rfl⟩
      rw [hN]
      refine pwpC_range rfl 119 [] [.cptr (x.cs (.sl (x.tab.flatMap Span.cs) x.tab.length f) sS), .cptr HC] (tabsV x l) [(27, .t (.fn 119 [] [.cptr (x.cs (.sl (x.tab.flatMap Span.cs) x.tab.length f) sS), .cptr HC])), (4, .ptr 1 0), (5, .ptr 2 0), (6, .t (.int .i64 0)), (7, .ptr 3 0)]
        (fun i => if i = 0 then [.box ((x.cs (.sl (x.tab.flatMap Span.cs) x.tab.length f) sS).map .t), .box [.t .nilSl], .box [.t (.int .i64 0), .t (.int .i64 0)], .box ((x.cs (.sl (x.tab.flatMap Span.cs) x.tab.length f) sS).map .t)]
          else [.box ((x.cs (.sl (x.tab.flatMap Span.cs) x.tab.length f) sS).map .t), .box [.gsl 4 1 2 0 x.tab.length false], .box ((trIdx x l i).cs.map .t), .box ((x.cs (.sl (x.tab.flatMap Span.cs) x.tab.length f) sS).map .t), .grow 1 (((trLeft x l i).flatMap Span.cs).map .t) 29 2]) 5 ?_ (by rfl) (by rfl) ?_ hIt hl2 (fun i => by split <;> simp) (fun i => by split <;> rfl) (fun i v hx => ?_) ?_
      · simp (decide := true) (maxSteps := 4000000) only [go_sem, Nat.reduceAdd, Nat.reduceSub, Nat.reduceMul, Nat.reduceDiv, Nat.reduceMod, Nat.reduceLT, Nat.reduceLeDiff, Nat.reduceEqDiff, Nat.reduceBEq, Nat.reduceBNe, Nat.reduceGT, Int.reduceAdd, Int.reduceSub, Int.reduceMul, Int.reduceNeg, Int.reduceLT, Int.reduceLE, Int.reduceEq, Int.reduceNe, Int.reduceBEq, Int.reduceBNe, Int.reduceToNat, Int.reduceGT, Int.reduceGE, ↓reduceIte, decide_true, decide_false, eq_self, Nat.mul_one, Nat.zero_mul, Nat.one_mul, Int.le_refl, Nat.le_refl, Int.cast_ofNat_Int, Sx.cs, ← hHC']
      · simp (decide := true) (maxSteps := 4000000) only [go_sem, Nat.reduceAdd, Nat.reduceSub, Nat.reduceMul, Nat.reduceDiv, Nat.reduceMod, Nat.reduceLT, Nat.reduceLeDiff, Nat.reduceEqDiff, Nat.reduceBEq, Nat.reduceBNe, Nat.reduceGT, Int.reduceAdd, Int.reduceSub, Int.reduceMul, Int.reduceNeg, Int.reduceLT, Int.reduceLE, Int.reduceEq, Int.reduceNe, Int.reduceBEq, Int.reduceBNe, Int.reduceToNat, Int.reduceGT, Int.reduceGE, ↓reduceIte, decide_true, decide_false, eq_self, Nat.mul_one, Nat.zero_mul, Nat.one_mul, Int.le_refl, Nat.le_refl, Int.cast_ofNat_Int, Sx.cs]
      · rw [tabsV_is x l hx]
        obtain ⟨I, hI⟩ : ∃ I, trIx x l i = I := ⟨_, rfl⟩
        rw [hI]
        have hR := tabR_len x l I
        have hfr := hflr I
        have h12 : 1 ≤ x.tab.length ∧ x.tab.length ≤ 12 := by omega
        obtain ⟨B, hB⟩ : ∃ B, (if i = 0 then tabR x l I else trLeft x l i) = B := ⟨_, rfl⟩
        have hBl : B.length = x.tab.length := by
          rw [← hB]
          cases i with
          | zero => rw [if_pos rfl]; exact hR
          | succ i => rw [if_neg (by omega)]; exact trLeft_len x l i
        have hnx : trLeft x l (i + 1) = zipW B (tabR x l I) := by rw [trLeft, hI, hB]
        have hni : trIdx x l (i + 1) = widerS (trIdx x l i) I (decide (i = 0)) := by rw [trIdx, hI]
        obtain ⟨T, hT'⟩ : ∃ T, tabR x l I = T := ⟨_, rfl⟩
        rw [hT'] at hR hfr hnx
        rw [hT']
        have hBT : B.length = T.length := by omega
        have z0 := zipK_zero B T
        have zn := zipK_end hBT
        rw [hR] at zn
        rcases Nat.eq_zero_or_pos i with hi0 | hi0
        · subst hi0
          rw [if_pos rfl, hT'] at hB
          have hix : trIdx x l 0 = ⟨0, 0⟩ := rfl
          have hd0 : decide (0 = 0) = true := rfl
          rw [hix, hd0] at hni
          simp (decide := true) (maxSteps := 4000000) only [go_sem, Nat.reduceAdd, Nat.reduceSub, Nat.reduceMul, Nat.reduceDiv, Nat.reduceMod, Nat.reduceLT, Nat.reduceLeDiff, Nat.reduceEqDiff, Nat.reduceBEq, Nat.reduceBNe, Nat.reduceGT, Int.reduceAdd, Int.reduceSub, Int.reduceMul, Int.reduceNeg, Int.reduceLT, Int.reduceLE, Int.reduceEq, Int.reduceNe, Int.reduceBEq, Int.reduceBNe, Int.reduceToNat, Int.reduceGT, Int.reduceGE, ↓reduceIte, decide_true, decide_false, eq_self, Nat.mul_one, Nat.zero_mul, Nat.one_mul, Int.le_refl, Nat.le_refl, Int.cast_ofNat_Int, Sx.cs, unS_eq, hR, h12, clV, clO]
          refine pwpC_loopU (A := { k : Nat // k ≤ x.tab.length }) [4, 5, 8, 10, 35, 36] (fun k => [(37, .t (.int .i64 k.1))]) (fun k => [(4, .grow 1 (((zipK B T k.1).flatMap Span.cs).map .t) 29 2)]) (fun k => x.tab.length - k.1) ⟨0, by omega⟩ (by decide) (fun _ => by rfl) ?_ fun Q1 hQ1 ⟨k, hk⟩ I1 hI1 => ?_
          · simp (decide := true) (maxSteps := 4000000) only [go_sem, Nat.reduceAdd, Nat.reduceSub, Nat.reduceMul, Nat.reduceDiv, Nat.reduceMod, Nat.reduceLT, Nat.reduceLeDiff, Nat.reduceEqDiff, Nat.reduceBEq, Nat.reduceBNe, Nat.reduceGT, Int.reduceAdd, Int.reduceSub, Int.reduceMul, Int.reduceNeg, Int.reduceLT, Int.reduceLE, Int.reduceEq, Int.reduceNe, Int.reduceBEq, Int.reduceBNe, Int.reduceToNat, Int.reduceGT, Int.reduceGE, ↓reduceIte, decide_true, decide_false, eq_self, Nat.mul_one, Nat.zero_mul, Nat.one_mul, Int.le_refl, Nat.le_refl, Int.cast_ofNat_Int, zipK_zero, hB]
          · by_cases hlt : (k : Int) < x.tab.length
            · have hkl : k < x.tab.length := by omega
              obtain ⟨c, hc⟩ := get_lt (l := T) (k := k) (by omega)
              obtain ⟨a, ha⟩ := get_lt (l := B) (k := k) (by omega)
              have hd := flat_at Span.cs (n := 2) (fun _ => rfl) hc
              have hc1 : IntKind.i64.wrap (k + 1) = ((k + 1 : Nat) : Int) := by rw [wrap_in (by omega) (by omega)]; omega
              have hzk := (zipK_at hBT (k := k) (by omega)).trans ha
              have hzs := zipK_succ hBT ha hc
              have hF := rowF (n := x.tab.length) (by rw [zipK_len hBT (by omega)]; exact hR) hzk
              by_cases hca : c = a
              · have hq : (c.lo == a.lo && c.hi == a.hi) = true := by rw [hca]; simp
                have hw : wid2 a c = a := if_pos hca
                have hss : (zipK B T k).set k a = zipK B T k := set_same hzk
                rw [hw, hss] at hzs
                simp (decide := true) (maxSteps := 4000000) only [go_sem, Nat.reduceAdd, Nat.reduceSub, Nat.reduceMul, Nat.reduceDiv, Nat.reduceMod, Nat.reduceLT, Nat.reduceLeDiff, Nat.reduceEqDiff, Nat.reduceBEq, Nat.reduceBNe, Nat.reduceGT, Int.reduceAdd, Int.reduceSub, Int.reduceMul, Int.reduceNeg, Int.reduceLT, Int.reduceLE, Int.reduceEq, Int.reduceNe, Int.reduceBEq, Int.reduceBNe, Int.reduceToNat, Int.reduceGT, Int.reduceGE, ↓reduceIte, decide_true, decide_false, eq_self, Nat.mul_one, Nat.zero_mul, Nat.one_mul, Int.le_refl, Nat.le_refl, Int.cast_ofNat_Int, hlt, hd, Span.cs, hF.len, hF.len', hF.drop, hF.lo, hF.hi, hF.b, hq]
                refine hI1 _ ⟨k + 1, by omega⟩ (by simp only; omega) ?_
                simp (decide := true) (maxSteps := 4000000) only [go_sem, Nat.reduceAdd, Nat.reduceSub, Nat.reduceMul, Nat.reduceDiv, Nat.reduceMod, Nat.reduceLT, Nat.reduceLeDiff, Nat.reduceEqDiff, Nat.reduceBEq, Nat.reduceBNe, Nat.reduceGT, Int.reduceAdd, Int.reduceSub, Int.reduceMul, Int.reduceNeg, Int.reduceLT, Int.reduceLE, Int.reduceEq, Int.reduceNe, Int.reduceBEq, Int.reduceBNe, Int.reduceToNat, Int.reduceGT, Int.reduceGE, ↓reduceIte, decide_true, decide_false, eq_self, Nat.mul_one, Nat.zero_mul, Nat.one_mul, Int.le_refl, Nat.le_refl, Int.cast_ofNat_Int, hc1, hzs, Span.cs]
              · have hq : (c.lo == a.lo && c.hi == a.hi) = false := by
                  cases hx : (c.lo == a.lo && c.hi == a.hi) with
                  | false => rfl
                  | true =>
                    rw [Bool.and_eq_true, beq_iff_eq, beq_iff_eq] at hx
                    obtain ⟨a0, a1⟩ := a; obtain ⟨c0, c1⟩ := c
                    exact absurd (by rw [show c0 = a0 from hx.1, show c1 = a1 from hx.2]) hca
                have hw : wid2 a c = widerS (widerS a c.lo false) c.hi false := if_neg hca
                rw [hw] at hzs
                have ea : Span.mk a.lo a.hi = a := rfl
                simp (decide := true) (maxSteps := 4000000) only [go_sem, Nat.reduceAdd, Nat.reduceSub, Nat.reduceMul, Nat.reduceDiv, Nat.reduceMod, Nat.reduceLT, Nat.reduceLeDiff, Nat.reduceEqDiff, Nat.reduceBEq, Nat.reduceBNe, Nat.reduceGT, Int.reduceAdd, Int.reduceSub, Int.reduceMul, Int.reduceNeg, Int.reduceLT, Int.reduceLE, Int.reduceEq, Int.reduceNe, Int.reduceBEq, Int.reduceBNe, Int.reduceToNat, Int.reduceGT, Int.reduceGE, ↓reduceIte, decide_true, decide_false, eq_self, Nat.mul_one, Nat.zero_mul, Nat.one_mul, Int.le_refl, Nat.le_refl, Int.cast_ofNat_Int, hlt, hd, Span.cs, Span.t, hF.len, hF.len', hF.drop, hF.lo, hF.hi, hF.b, hF.set, hq, ea]
                refine hI1 _ ⟨k + 1, by omega⟩ (by simp only; omega) ?_
                simp (decide := true) (maxSteps := 4000000) only [go_sem, Nat.reduceAdd, Nat.reduceSub, Nat.reduceMul, Nat.reduceDiv, Nat.reduceMod, Nat.reduceLT, Nat.reduceLeDiff, Nat.reduceEqDiff, Nat.reduceBEq, Nat.reduceBNe, Nat.reduceGT, Int.reduceAdd, Int.reduceSub, Int.reduceMul, Int.reduceNeg, Int.reduceLT, Int.reduceLE, Int.reduceEq, Int.reduceNe, Int.reduceBEq, Int.reduceBNe, Int.reduceToNat, Int.reduceGT, Int.reduceGE, ↓reduceIte, decide_true, decide_false, eq_self, Nat.mul_one, Nat.zero_mul, Nat.one_mul, Int.le_refl, Nat.le_refl, Int.cast_ofNat_Int, hc1, hzs, Span.cs]
            · have hke : k = x.tab.length := by omega
              subst hke
              simp (decide := true) (maxSteps := 4000000) only [go_sem, Nat.reduceAdd, Nat.reduceSub, Nat.reduceMul, Nat.reduceDiv, Nat.reduceMod, Nat.reduceLT, Nat.reduceLeDiff, Nat.reduceEqDiff, Nat.reduceBEq, Nat.reduceBNe, Nat.reduceGT, Int.reduceAdd, Int.reduceSub, Int.reduceMul, Int.reduceNeg, Int.reduceLT, Int.reduceLE, Int.reduceEq, Int.reduceNe, Int.reduceBEq, Int.reduceBNe, Int.reduceToNat, Int.reduceGT, Int.reduceGE, ↓reduceIte, decide_true, decide_false, eq_self, Nat.mul_one, Nat.zero_mul, Nat.one_mul, Int.le_refl, Nat.le_refl, Int.cast_ofNat_Int, hlt]
              refine hQ1 _ _ ?_
              simp (decide := true) (maxSteps := 4000000) only [go_sem, Nat.reduceAdd, Nat.reduceSub, Nat.reduceMul, Nat.reduceDiv, Nat.reduceMod, Nat.reduceLT, Nat.reduceLeDiff, Nat.reduceEqDiff, Nat.reduceBEq, Nat.reduceBNe, Nat.reduceGT, Int.reduceAdd, Int.reduceSub, Int.reduceMul, Int.reduceNeg, Int.reduceLT, Int.reduceLE, Int.reduceEq, Int.reduceNe, Int.reduceBEq, Int.reduceBNe, Int.reduceToNat, Int.reduceGT, Int.reduceGE, ↓reduceIte, decide_true, decide_false, eq_self, Nat.mul_one, Nat.zero_mul, Nat.one_mul, Int.le_refl, Nat.le_refl, Int.cast_ofNat_Int, zn, hnx, hni, Span.cs, Span.t]
        · rw [if_neg (by omega)] at hB
          obtain ⟨i, rfl⟩ : ∃ j, i = j + 1 := ⟨i - 1, by omega⟩
          have hd0 : decide (i + 1 = 0) = false := rfl
          rw [hd0] at hni
          simp (decide := true) (maxSteps := 4000000) only [go_sem, Nat.reduceAdd, Nat.reduceSub, Nat.reduceMul, Nat.reduceDiv, Nat.reduceMod, Nat.reduceLT, Nat.reduceLeDiff, Nat.reduceEqDiff, Nat.reduceBEq, Nat.reduceBNe, Nat.reduceGT, Int.reduceAdd, Int.reduceSub, Int.reduceMul, Int.reduceNeg, Int.reduceLT, Int.reduceLE, Int.reduceEq, Int.reduceNe, Int.reduceBEq, Int.reduceBNe, Int.reduceToNat, Int.reduceGT, Int.reduceGE, ↓reduceIte, decide_true, decide_false, eq_self, Nat.mul_one, Nat.zero_mul, Nat.one_mul, Int.le_refl, Nat.le_refl, Int.cast_ofNat_Int, Sx.cs, unS_eq, hR, h12, clV, clO]
          refine pwpC_loopU (A := { k : Nat // k ≤ x.tab.length }) [4, 5, 8, 10, 35, 36] (fun k => [(37, .t (.int .i64 k.1))]) (fun k => [(4, .grow 1 (((zipK B T k.1).flatMap Span.cs).map .t) 29 2)]) (fun k => x.tab.length - k.1) ⟨0, by omega⟩ (by decide) (fun _ => by rfl) ?_ fun Q1 hQ1 ⟨k, hk⟩ I1 hI1 => ?_
          · simp (decide := true) (maxSteps := 4000000) only [go_sem, Nat.reduceAdd, Nat.reduceSub, Nat.reduceMul, Nat.reduceDiv, Nat.reduceMod, Nat.reduceLT, Nat.reduceLeDiff, Nat.reduceEqDiff, Nat.reduceBEq, Nat.reduceBNe, Nat.reduceGT, Int.reduceAdd, Int.reduceSub, Int.reduceMul, Int.reduceNeg, Int.reduceLT, Int.reduceLE, Int.reduceEq, Int.reduceNe, Int.reduceBEq, Int.reduceBNe, Int.reduceToNat, Int.reduceGT, Int.reduceGE, ↓reduceIte, decide_true, decide_false, eq_self, Nat.mul_one, Nat.zero_mul, Nat.one_mul, Int.le_refl, Nat.le_refl, Int.cast_ofNat_Int, zipK_zero, hB]
          · by_cases hlt : (k : Int) < x.tab.length
            · have hkl : k < x.tab.length := by omega
              obtain ⟨c, hc⟩ := get_lt (l := T) (k := k) (by omega)
              obtain ⟨a, ha⟩ := get_lt (l := B) (k := k) (by omega)
              have hd := flat_at Span.cs (n := 2) (fun _ => rfl) hc
              have hc1 : IntKind.i64.wrap (k + 1) = ((k + 1 : Nat) : Int) := by rw [wrap_in (by omega) (by omega)]; omega
              have hzk := (zipK_at hBT (k := k) (by omega)).trans ha
              have hzs := zipK_succ hBT ha hc
              have hF := rowF (n := x.tab.length) (by rw [zipK_len hBT (by omega)]; exact hR) hzk
              by_cases hca : c = a
              · have hq : (c.lo == a.lo && c.hi == a.hi) = true := by rw [hca]; simp
                have hw : wid2 a c = a := if_pos hca
                have hss : (zipK B T k).set k a = zipK B T k := set_same hzk
                rw [hw, hss] at hzs
                simp (decide := true) (maxSteps := 4000000) only [go_sem, Nat.reduceAdd, Nat.reduceSub, Nat.reduceMul, Nat.reduceDiv, Nat.reduceMod, Nat.reduceLT, Nat.reduceLeDiff, Nat.reduceEqDiff, Nat.reduceBEq, Nat.reduceBNe, Nat.reduceGT, Int.reduceAdd, Int.reduceSub, Int.reduceMul, Int.reduceNeg, Int.reduceLT, Int.reduceLE, Int.reduceEq, Int.reduceNe, Int.reduceBEq, Int.reduceBNe, Int.reduceToNat, Int.reduceGT, Int.reduceGE, ↓reduceIte, decide_true, decide_false, eq_self, Nat.mul_one, Nat.zero_mul, Nat.one_mul, Int.le_refl, Nat.le_refl, Int.cast_ofNat_Int, hlt, hd, Span.cs, hF.len, hF.len', hF.drop, hF.lo, hF.hi, hF.b, hq]
                refine hI1 _ ⟨k + 1, by omega⟩ (by simp only; omega) ?_
                simp (decide := true) (maxSteps := 4000000) only [go_sem, Nat.reduceAdd, Nat.reduceSub, Nat.reduceMul, Nat.reduceDiv, Nat.reduceMod, Nat.reduceLT, Nat.reduceLeDiff, Nat.reduceEqDiff, Nat.reduceBEq, Nat.reduceBNe, Nat.reduceGT, Int.reduceAdd, Int.reduceSub, Int.reduceMul, Int.reduceNeg, Int.reduceLT, Int.reduceLE, Int.reduceEq, Int.reduceNe, Int.reduceBEq, Int.reduceBNe, Int.reduceToNat, Int.reduceGT, Int.reduceGE, ↓reduceIte, decide_true, decide_false, eq_self, Nat.mul_one, Nat.zero_mul, Nat.one_mul, Int.le_refl, Nat.le_refl, Int.cast_ofNat_Int, hc1, hzs, Span.cs]
              · have hq : (c.lo == a.lo && c.hi == a.hi) = false := by
                  cases hx : (c.lo == a.lo && c.hi == a.hi) with
                  | false => rfl
                  | true =>
                    rw [Bool.and_eq_true, beq_iff_eq, beq_iff_eq] at hx
                    obtain ⟨a0, a1⟩ := a; obtain ⟨c0, c1⟩ := c
                    exact absurd (by rw [show c0 = a0 from hx.1, show c1 = a1 from hx.2]) hca
                have hw : wid2 a c = widerS (widerS a c.lo false) c.hi false := if_neg hca
                rw [hw] at hzs
                have ea : Span.mk a.lo a.hi = a := rfl
                simp (decide := true) (maxSteps := 4000000) only [go_sem, Nat.reduceAdd, Nat.reduceSub, Nat.reduceMul, Nat.reduceDiv, Nat.reduceMod, Nat.reduceLT, Nat.reduceLeDiff, Nat.reduceEqDiff, Nat.reduceBEq, Nat.reduceBNe, Nat.reduceGT, Int.reduceAdd, Int.reduceSub, Int.reduceMul, Int.reduceNeg, Int.reduceLT, Int.reduceLE, Int.reduceEq, Int.reduceNe, Int.reduceBEq, Int.reduceBNe, Int.reduceToNat, Int.reduceGT, Int.reduceGE, ↓reduceIte, decide_true, decide_false, eq_self, Nat.mul_one, Nat.zero_mul, Nat.one_mul, Int.le_refl, Nat.le_refl, Int.cast_ofNat_Int, hlt, hd, Span.cs, Span.t, hF.len, hF.len', hF.drop, hF.lo, hF.hi, hF.b, hF.set, hq, ea]
                refine hI1 _ ⟨k + 1, by omega⟩ (by simp only; omega) ?_
                simp (decide := true) (maxSteps := 4000000) only [go_sem, Nat.reduceAdd, Nat.reduceSub, Nat.reduceMul, Nat.reduceDiv, Nat.reduceMod, Nat.reduceLT, Nat.reduceLeDiff, Nat.reduceEqDiff, Nat.reduceBEq, Nat.reduceBNe, Nat.reduceGT, Int.reduceAdd, Int.reduceSub, Int.reduceMul, Int.reduceNeg, Int.reduceLT, Int.reduceLE, Int.reduceEq, Int.reduceNe, Int.reduceBEq, Int.reduceBNe, Int.reduceToNat, Int.reduceGT, Int.reduceGE, ↓reduceIte, decide_true, decide_false, eq_self, Nat.mul_one, Nat.zero_mul, Nat.one_mul, Int.le_refl, Nat.le_refl, Int.cast_ofNat_Int, hc1, hzs, Span.cs]
            · have hke : k = x.tab.length := by omega
              subst hke
              simp (decide := true) (maxSteps := 4000000) only [go_sem, Nat.reduceAdd, Nat.reduceSub, Nat.reduceMul, Nat.reduceDiv, Nat.reduceMod, Nat.reduceLT, Nat.reduceLeDiff, Nat.reduceEqDiff, Nat.reduceBEq, Nat.reduceBNe, Nat.reduceGT, Int.reduceAdd, Int.reduceSub, Int.reduceMul, Int.reduceNeg, Int.reduceLT, Int.reduceLE, Int.reduceEq, Int.reduceNe, Int.reduceBEq, Int.reduceBNe, Int.reduceToNat, Int.reduceGT, Int.reduceGE, ↓reduceIte, decide_true, decide_false, eq_self, Nat.mul_one, Nat.zero_mul, Nat.one_mul, Int.le_refl, Nat.le_refl, Int.cast_ofNat_Int, hlt]
              refine hQ1 _ _ ?_
              simp (decide := true) (maxSteps := 4000000) only [go_sem, Nat.reduceAdd, Nat.reduceSub, Nat.reduceMul, Nat.reduceDiv, Nat.reduceMod, Nat.reduceLT, Nat.reduceLeDiff, Nat.reduceEqDiff, Nat.reduceBEq, Nat.reduceBNe, Nat.reduceGT, Int.reduceAdd, Int.reduceSub, Int.reduceMul, Int.reduceNeg, Int.reduceLT, Int.reduceLE, Int.reduceEq, Int.reduceNe, Int.reduceBEq, Int.reduceBNe, Int.reduceToNat, Int.reduceGT, Int.reduceGE, ↓reduceIte, decide_true, decide_false, eq_self, Nat.mul_one, Nat.zero_mul, Nat.one_mul, Int.le_refl, Nat.le_refl, Int.cast_ofNat_Int, zn, hnx, hni, Span.cs, Span.t]
      · cases N with
        | zero =>
          rw [hN]
          simp (decide := true) (maxSteps := 4000000) only [go_sem, Nat.reduceAdd, Nat.reduceSub, Nat.reduceMul, Nat.reduceDiv, Nat.reduceMod, Nat.reduceLT, Nat.reduceLeDiff, Nat.reduceEqDiff, Nat.reduceBEq, Nat.reduceBNe, Nat.reduceGT, Int.reduceAdd, Int.reduceSub, Int.reduceMul, Int.reduceNeg, Int.reduceLT, Int.reduceLE, Int.reduceEq, Int.reduceNe, Int.reduceBEq, Int.reduceBNe, Int.reduceToNat, Int.reduceGT, Int.reduceGE, ↓reduceIte, decide_true, decide_false, eq_self, Nat.mul_one, Nat.zero_mul, Nat.one_mul, Int.le_refl, Nat.le_refl, Int.cast_ofNat_Int, Sx.cs, rowF1, List.length_nil, Span.t, Span.cs]
        | succ N =>
          rw [hN]
          have hLl := trLeft_len x l N
          obtain ⟨L, hL⟩ : ∃ L, trLeft x l (N + 1) = L := ⟨_, rfl⟩
          rw [hL] at hLl
          have hn0 : ¬ x.tab.length = 0 := by omega
          have hfL : (List.flatMap Span.cs L).length = x.tab.length * 2 := by rw [flat_len Span.cs (n := 2) (fun _ => rfl), hLl]
          have htk : List.take (x.tab.length * 2) (L.flatMap Span.cs) = L.flatMap Span.cs := List.take_of_length_le (by omega)
          have hlm : (List.map PV.t (L.flatMap Span.cs)).length = x.tab.length * 2 := by rw [List.length_map, hfL]
          have c1 : (0 : Int) ≤ x.tab.length := by omega
          simp (decide := true) (maxSteps := 4000000) only [go_sem, Nat.reduceAdd, Nat.reduceSub, Nat.reduceMul, Nat.reduceDiv, Nat.reduceMod, Nat.reduceLT, Nat.reduceLeDiff, Nat.reduceEqDiff, Nat.reduceBEq, Nat.reduceBNe, Nat.reduceGT, Int.reduceAdd, Int.reduceSub, Int.reduceMul, Int.reduceNeg, Int.reduceLT, Int.reduceLE, Int.reduceEq, Int.reduceNe, Int.reduceBEq, Int.reduceBNe, Int.reduceToNat, Int.reduceGT, Int.reduceGE, ↓reduceIte, decide_true, decide_false, eq_self, Nat.mul_one, Nat.zero_mul, Nat.one_mul, Int.le_refl, Nat.le_refl, Int.cast_ofNat_Int, hL, hLl, hn0, hfL, htk, hlm, Sx.cs, rowF1, Span.t, Span.cs, sliceG, Option.isSome_some, Int.toNat_natCast, Nat.sub_zero, List.drop_zero, Nat.zero_add, freezeW, freezeO, closedG, seenF, wr, upo, thawA, c1]
          done
end Go.Proofs.Ytadkjjnnnkfalaa.Sx

/- Part So. -/
namespace Go.Proofs.Ytadkjjnnnkfalaa.Sx
end Go.Proofs.Ytadkjjnnnkfalaa.Sx
namespace Go.Os
open Go Go.Pm Go.Oc Go.Oh
/-- Can such a choice of trials be made with no true sextant? -/
def badC (x : Sx) (l : List Tr) (S : List Nat) : Bool := !canB x (selA l S)
def frO (S : List Nat) : Nat := match S.getLast? with | none => 0 | some i => i + 1
theorem frO_snoc (S : List Nat) (i : Nat) : frO (S ++ [i]) = i + 1 := by unfold frO; simp
theorem selA_take {l : List Tr} {S : List Nat} {k i : Nat} {p : Tr} (hi : S[k]? = some i) (hp : l[i]? = some p) : selA l (S.take (k + 1)) = selA l (S.take k) ++ [p] := by
  rw [take_snoc hi, selA_snoc hp]
theorem ints_at {S : List Nat} {k i : Nat} (h : S[k]? = some i) : (ints (nI S)).drop k = .int .i64 i :: (ints (nI (S.drop (k + 1)))) := by
  have hd := (List.getElem?_eq_some_iff.1 h)
  have h3 : S.drop k = i :: S.drop (k + 1) := by
    rw [List.drop_eq_getElem_cons hd.1]; congr 1; exact hd.2
  unfold ints nI
  rw [← List.map_drop, ← List.map_drop, h3]; rfl
theorem trs_sel {x : Sx} {l : List Tr} (h : l.all (trB x) = true) (S : List Nat) : (selA l S).all (trB x) = true := List.all_eq_true.2 fun p hp => List.all_eq_true.1 h p (selA_sub hp)
end Go.Os
namespace Go.Proofs.Ytadkjjnnnkfalaa.Sx
open Go.RowKit Go.Pm Go.Oc Go.Oh Go.Os
set_option maxRecDepth 100000
set_option linter.unusedVariables false
set_option maxHeartbeats 8000000

theorem allO_snocT : ∀ (xs : List TV) (y : TV), allO (List.map PV.toT (List.map PV.t xs ++ [PV.t y])) = some (xs ++ [y])
  | [], y => rfl
  | x :: xs, y => by simp only [List.map_cons, List.cons_append, allO, PV.toT, allO_snocT xs y, Option.map_some]
theorem rowI_inj {a b : List Nat} (h : rowI (nI a) = rowI (nI b)) : a = b := by
  unfold rowI at h
  split at h <;> split at h
  · rename_i h1 h2
    rw [nI_len] at h1 h2
    rw [List.length_eq_zero_iff.1 h1, List.length_eq_zero_iff.1 h2]
  · cases h
  · cases h
  · simp only [TV.sl.injEq] at h
    have h2 := h.1
    rw [← ic_ints, ← ic_ints] at h2
    exact nI_inj (flat_inj (c := ic) (n := 1) (fun _ => rfl) (by decide) (fun x y h => by simpa [ic] using h) h2)
def falA (S : List Nat) (many : Nat) : List PV := [.t (rowI (nI S)), .t (.int .i64 (many : Nat)), .ptr 0 0, .ptr 1 0, .ptr 2 0, .ptr 3 0]
end Go.Proofs.Ytadkjjnnnkfalaa.Sx

/- Part Rep. -/
namespace Go.Proofs.Ytadkjjnnnkfalaa.Sx
end Go.Proofs.Ytadkjjnnnkfalaa.Sx
namespace Go.Os
open Go Go.Pm Go.Oc Go.Oh
def bothOf (L : List Span) : Span := L.foldl (fun a s => ⟨max a.lo s.lo, min a.hi s.hi⟩) ⟨-1000000, 1000000⟩
theorem bothOf_snoc (L : List Span) (s : Span) : bothOf (L ++ [s]) = ⟨max (bothOf L).lo s.lo, min (bothOf L).hi s.hi⟩ := by unfold bothOf; rw [List.foldl_append]; rfl
theorem bothF_b : ∀ (L : List Span) (a : Span), (∀ s ∈ L, -600000 ≤ s.lo ∧ s.lo ≤ 600000 ∧ -600000 ≤ s.hi ∧ s.hi ≤ 600000) → (-1000000 ≤ a.lo ∧ a.lo ≤ 600000 ∧ -600000 ≤ a.hi ∧ a.hi ≤ 1000000) → -1000000 ≤ (L.foldl (fun (a s : Span) => (⟨max a.lo s.lo, min a.hi s.hi⟩ : Span)) a).lo ∧ (L.foldl (fun (a s : Span) => (⟨max a.lo s.lo, min a.hi s.hi⟩ : Span)) a).lo ≤ 600000 ∧ -600000 ≤ (L.foldl (fun (a s : Span) => (⟨max a.lo s.lo, min a.hi s.hi⟩ : Span)) a).hi ∧ (L.foldl (fun (a s : Span) => (⟨max a.lo s.lo, min a.hi s.hi⟩ : Span)) a).hi ≤ 1000000
  | [], a, _, h => h
  | s :: L, a, hL, h => by
    rw [List.foldl_cons]
    have hs := hL s (by simp)
    exact bothF_b L _ (fun y hy => hL y (List.mem_cons_of_mem _ hy)) (by simp only; omega)
theorem bothOf_b (L : List Span) (h : ∀ s ∈ L, -600000 ≤ s.lo ∧ s.lo ≤ 600000 ∧ -600000 ≤ s.hi ∧ s.hi ≤ 600000) : -1000000 ≤ (bothOf L).lo ∧ (bothOf L).lo ≤ 600000 ∧ -600000 ≤ (bothOf L).hi ∧ (bothOf L).hi ≤ 1000000 := bothF_b L _ h (by decide)
theorem sumsN_snoc (x : Sx) (l : List Tr) (p : Tr) (k : Nat) : sumsN x (l ++ [p]) k = if trK x p = k then sumsN x l k ++ [trS x p] else sumsN x l k := by
  unfold sumsN
  rw [List.filter_append, List.map_append]
  by_cases e : trK x p = k
  · rw [if_pos e]; simp [e]
  · rw [if_neg e]; simp [e]
theorem trK_iff {x : Sx} (h : GoodS x) {p : Tr} (hp : trB x p = true) (k : Nat) : p.a = (k : Int) * x.step ↔ trK x p = k := by
  unfold trB at hp
  simp only [Bool.and_eq_true, decide_eq_true_eq] at hp
  obtain ⟨h1, _⟩ := isRd_iff.1 hp.1
  have hst := h.st
  have e3 := Int.mul_ediv_add_emod p.a x.step
  rw [hp.2.1, Int.add_zero] at e3
  unfold trK
  have q0 : 0 ≤ p.a / x.step := Int.ediv_nonneg h1.1 (by omega)
  constructor
  · intro e
    rw [e, Int.mul_ediv_cancel _ (by omega)]; simp
  · intro e
    have : p.a / x.step = (k : Int) := by omega
    rw [this] at e3
    rw [← e3, Int.mul_comm]
/-- The trials of a set. -/
def setT (l : List Tr) (s : Nat) : List Tr := selA l (setN l.length s)
theorem setN_lt {n s : Nat} {x : Nat} (h : x ∈ setN n s) : x < n := by
  unfold setN at h; exact List.mem_range.1 (List.mem_filter.1 h).1
def bS (x : Sx) (L : List Tr) (k : Nat) : Span := bothOf (sumsN x L k)
theorem bS_b {x : Sx} (h : GoodS x) {L : List Tr} (hl : L.all (trB x) = true) (k : Nat) : -1000000 ≤ (bS x L k).lo ∧ (bS x L k).lo ≤ 600000 ∧ -600000 ≤ (bS x L k).hi ∧ (bS x L k).hi ≤ 1000000 := bothOf_b _ fun s hs => sumsN_b h hl hs
end Go.Os

/- Part Rfp. -/
namespace Go.Proofs.Ytadkjjnnnkfalaa.Sx
end Go.Proofs.Ytadkjjnnnkfalaa.Sx
namespace Go.Os
open Go Go.Pm Go.Oc Go.Oh
def nStep (x : Sx) (L : List Tr) (i : Span) (k : Nat) : Span := ⟨max i.lo ((bS x L k).lo - (atS x.tab k).hi), min i.hi ((bS x L k).hi - (atS x.tab k).lo)⟩
def nIdx (x : Sx) (L : List Tr) (k : Nat) : Span := (List.range k).foldl (nStep x L) x.idx
theorem nIdx_succ (x : Sx) (L : List Tr) (k : Nat) : nIdx x L (k + 1) = nStep x L (nIdx x L k) k := by unfold nIdx; rw [List.range_succ, List.foldl_append]; rfl
def nI' (x : Sx) (L : List Tr) : Span := nIdx x L x.tab.length
def nEl (x : Sx) (L : List Tr) (k : Nat) : Span := ⟨max (atS x.tab k).lo ((bS x L k).lo - (nI' x L).hi), min (atS x.tab k).hi ((bS x L k).hi - (nI' x L).lo)⟩
def nTab (x : Sx) (L : List Tr) (k : Nat) : List Span := (List.range k).map (nEl x L)
theorem nTab_succ (x : Sx) (L : List Tr) (k : Nat) : nTab x L (k + 1) = nTab x L k ++ [nEl x L k] := by unfold nTab; rw [List.range_succ, List.map_append]; rfl
theorem nTab_len (x : Sx) (L : List Tr) (k : Nat) : (nTab x L k).length = k := by simp [nTab]
/-- Can all of these trials be so? -/
def narOk (x : Sx) (L : List Tr) : Bool := (List.range x.tab.length).all (fun k => decide ((bS x L k).lo ≤ (bS x L k).hi)) && decide ((nI' x L).lo ≤ (nI' x L).hi)
def narT (x : Sx) (sT sS : TV) (L : List Tr) : TV := if narOk x L then .agg [.int .i64 x.step, .sl ((nTab x L x.tab.length).flatMap Span.cs) x.tab.length false, .int .i64 (nI' x L).lo, .int .i64 (nI' x L).hi, .int .i64 x.wrong, sS] else x.t sT sS
theorem nIdx_b {x : Sx} (h : GoodS x) {L : List Tr} (hl : L.all (trB x) = true) : ∀ k, k ≤ x.tab.length → (-2000000 ≤ (nIdx x L k).lo ∧ (nIdx x L k).lo ≤ 2000000) ∧ -2000000 ≤ (nIdx x L k).hi ∧ (nIdx x L k).hi ≤ 2000000
  | 0, _ => by have := h.idx; simp only [nIdx, List.range_zero, List.foldl_nil]; omega
  | k + 1, hk => by
    have ih := nIdx_b h hl k (by omega)
    have hb := bS_b h hl k
    have ht := h.tab _ (atS_mem (show k < x.tab.length by omega))
    rw [nIdx_succ]; unfold nStep; simp only; omega
/-- What the specification's Trial returns. -/
def trialR (x : Sx) (l : List Tr) : List Span × Span × Int :=
  if openedE x l = 0 then (if narOk x (setT l (2 ^ l.length - 1)) then (nTab x (setT l (2 ^ l.length - 1)) x.tab.length, nI' x (setT l (2 ^ l.length - 1)), 0) else ([], ⟨0, 0⟩, 54)) else ([], ⟨0, 0⟩, openedE x l)
def badR (x : Sx) (l : List Tr) (S : List Nat) : Bool := !narOk x (selA l S)
/-- What the specification's False returns. -/
def falseR (x : Sx) (l : List Tr) : List Nat × Int :=
  if openedE x l = 0 then (if refTo (badR x l) l.length (2 ^ l.length - 1) = [] then ([], 4) else (refTo (badR x l) l.length (2 ^ l.length - 1), 0)) else ([], openedE x l)
end Go.Os

/- Part Suh. -/
namespace Go.Proofs.Ytadkjjnnnkfalaa.Sx
end Go.Proofs.Ytadkjjnnnkfalaa.Sx
namespace Go.Os
open Go Go.Pm Go.Oc Go.Oh
/-- What lies between the ends of a span, no more (or nothing does). -/
def Hull (e : Bool) (s : Span) (Q : Int → Prop) : Prop := (e = true ∧ ∀ z, ¬ Q z) ∨ (e = false ∧ Q s.lo ∧ Q s.hi ∧ ∀ z, Q z → s.lo ≤ z ∧ z ≤ s.hi)
theorem widerS_t (s : Span) (n : Int) : widerS s n true = ⟨n, n⟩ := rfl
theorem widerS_f (s : Span) (n : Int) : widerS s n false = ⟨min s.lo n, max s.hi n⟩ := rfl
theorem hull_same {e : Bool} {s : Span} {Q Q' : Int → Prop} (h : Hull e s Q) (hq : ∀ z, Q' z ↔ Q z) : Hull e s Q' := by
  have : Q' = Q := funext fun z => propext (hq z)
  rw [this]; exact h
theorem hull_add {e : Bool} {s : Span} {Q : Int → Prop} (h : Hull e s Q) (n : Int) : Hull false (widerS s n e) (fun z => Q z ∨ z = n) := by
  rcases h with ⟨rfl, h⟩ | ⟨rfl, h1, h2, h3⟩
  · rw [widerS_t]
    exact .inr ⟨rfl, .inr rfl, .inr rfl, fun z hz => by rcases hz with hz | rfl; exact absurd hz (h z); simp⟩
  · rw [widerS_f]
    refine .inr ⟨rfl, ?_, ?_, fun z hz => ?_⟩
    · simp only
      by_cases c : s.lo ≤ n
      · rw [show min s.lo n = s.lo by omega]; exact .inl h1
      · rw [show min s.lo n = n by omega]; exact .inr rfl
    · simp only
      by_cases c : n ≤ s.hi
      · rw [show max s.hi n = s.hi by omega]; exact .inl h2
      · rw [show max s.hi n = n by omega]; exact .inr rfl
    · simp only
      rcases hz with hz | rfl
      · have := h3 z hz; omega
      · omega
theorem hull_span {e : Bool} {s : Span} {Q : Int → Prop} (h : Hull e s Q) {lo hi : Int} (hl : lo ≤ hi) : Hull false (widerS (widerS s lo e) hi false) (fun z => Q z ∨ (lo ≤ z ∧ z ≤ hi)) := by
  have h1 := hull_add (hull_add h lo) hi
  rcases h1 with ⟨he, _⟩ | ⟨_, a, b, c⟩
  · cases he
  · refine .inr ⟨rfl, ?_, ?_, fun z hz => ?_⟩
    · rcases a with (a | a) | a
      · exact .inl a
      · exact .inr (by omega)
      · exact .inr (by omega)
    · rcases b with (b | b) | b
      · exact .inl b
      · exact .inr (by omega)
      · exact .inr (by omega)
    · rcases hz with hz | hz
      · exact c z (.inl (.inl hz))
      · have u := c lo (.inl (.inr rfl)); have v := c hi (.inr rfl); omega
theorem hull_one {e e' : Bool} {s s' : Span} {Q : Int → Prop} (h : Hull e s Q) (h' : Hull e' s' Q) : e = e' ∧ (e = false → s = s') := by
  rcases h with ⟨rfl, h⟩ | ⟨rfl, h1, h2, h3⟩ <;> rcases h' with ⟨rfl, h'⟩ | ⟨rfl, h1', h2', h3'⟩
  · exact ⟨rfl, fun h => (by cases h)⟩
  · exact absurd h1' (h _)
  · exact absurd h1 (h' _)
  · refine ⟨rfl, fun _ => ?_⟩
    obtain ⟨a, b⟩ := s; obtain ⟨c, d⟩ := s'
    have u := h3 _ h1'; have v := h3 _ h2'; have w := h3' _ h1; have t := h3' _ h2
    simp only at *
    rw [show a = c by omega, show b = d by omega]
end Go.Os

/- Part Swh. -/
namespace Go.Proofs.Ytadkjjnnnkfalaa.Sx
end Go.Proofs.Ytadkjjnnnkfalaa.Sx
namespace Go.Os
open Go Go.Pm Go.Oc Go.Oh
theorem tabsV_lenN (x : Sx) (l : List Tr) : (tabsV x l).length = (tabsN x l).length := by unfold tabsV tabsN; rw [List.length_map]
theorem trIx_eq {x : Sx} {l : List Tr} {j n : Nat} (h : (tabsN x l)[j]? = some n) : trIx x l j = x.idx.lo + (n : Int) := by
  unfold trIx; rw [List.getD_eq_getElem?_getD, h]; rfl
theorem trIx_in {x : Sx} {l : List Tr} {j : Nat} (h : j < (tabsN x l).length) : okT x l (trIx x l j) = true ∧ x.idx.lo ≤ trIx x l j ∧ trIx x l j ≤ x.idx.hi := by
  have hj := List.getElem?_eq_getElem h
  have hm := List.mem_of_getElem? hj
  rw [trIx_eq hj]
  have hm' := List.mem_filter.1 hm
  have := List.mem_range.1 hm'.1
  refine ⟨hm'.2, by omega, ?_⟩
  unfold idxN at this; omega
theorem trIx_all {x : Sx} {l : List Tr} {i : Int} (hi : x.idx.lo ≤ i ∧ i ≤ x.idx.hi) (ho : okT x l i = true) : ∃ j, j < (tabsN x l).length ∧ trIx x l j = i := by
  have hm : (i - x.idx.lo).toNat ∈ tabsN x l := by
    unfold tabsN
    refine List.mem_filter.2 ⟨List.mem_range.2 (by unfold idxN; omega), ?_⟩
    unfold okI
    rw [show x.idx.lo + ((i - x.idx.lo).toNat : Int) = i by omega]; exact ho
  obtain ⟨j, hj, e⟩ := List.mem_iff_getElem.1 hm
  refine ⟨j, hj, ?_⟩
  rw [trIx_eq (List.getElem?_eq_getElem hj), e]; omega
theorem trIdx_hull (x : Sx) (l : List Tr) : ∀ k, Hull (decide (k = 0)) (trIdx x l k) (fun i => ∃ j, j < k ∧ trIx x l j = i)
  | 0 => .inl ⟨rfl, fun z ⟨j, h, _⟩ => by omega⟩
  | k + 1 => by
    have ih := hull_add (trIdx_hull x l k) (trIx x l k)
    have e : trIdx x l (k + 1) = widerS (trIdx x l k) (trIx x l k) (decide (k = 0)) := rfl
    rw [e, decide_eq_false (show ¬ k + 1 = 0 by omega)]
    refine hull_same ih fun z => ?_
    constructor
    · rintro ⟨j, h, rfl⟩
      by_cases e : j = k
      · subst e; exact .inr rfl
      · exact .inl ⟨j, by omega, rfl⟩
    · rintro (⟨j, h, rfl⟩ | rfl)
      · exact ⟨j, by omega, rfl⟩
      · exact ⟨k, by omega, rfl⟩
theorem hull_wid2 {a c : Span} {Q : Int → Prop} (h : Hull false a Q) (hc : c.lo ≤ c.hi) : Hull false (wid2 a c) (fun v => Q v ∨ (c.lo ≤ v ∧ v ≤ c.hi)) := by
  unfold wid2
  split
  · rename_i e
    subst e
    rcases h with ⟨he, _⟩ | ⟨_, h1, h2, h3⟩
    · cases he
    · refine .inr ⟨rfl, .inl h1, .inl h2, fun z hz => ?_⟩
      rcases hz with hz | hz
      · exact h3 z hz
      · exact hz
  · exact hull_span h hc
theorem atS_zip {B T : List Span} {k : Nat} (h1 : k < B.length) (h2 : k < T.length) : atS (zipW B T) k = wid2 (atS B k) (atS T k) := by
  have e1 := List.getElem?_eq_getElem h1
  have e2 := List.getElem?_eq_getElem h2
  rw [atS_eq e1, atS_eq e2]
  apply atS_eq
  unfold zipW
  rw [List.getElem?_zipWith, e1, e2]
theorem atS_tabR {x : Sx} {l : List Tr} {i : Int} {k : Nat} (h : k < x.tab.length) : atS (tabR x l i) k = tabK x l i k := by
  apply atS_eq; unfold tabR; rw [List.getElem?_map, List.getElem?_range h]; rfl
theorem okT_ne {x : Sx} {l : List Tr} {i : Int} (h : okT x l i = true) {k : Nat} (hk : k < x.tab.length) : (tabK x l i k).lo ≤ (tabK x l i k).hi := by
  unfold okT at h
  have := List.all_eq_true.1 h k (List.mem_range.2 hk)
  simpa using this
theorem trLeft_hull {x : Sx} {l : List Tr} {k : Nat} (hk : k < x.tab.length) : ∀ n, n < (tabsN x l).length → Hull false (atS (trLeft x l (n + 1)) k) (fun v => ∃ j, j < n + 1 ∧ (tabK x l (trIx x l j) k).lo ≤ v ∧ v ≤ (tabK x l (trIx x l j) k).hi)
  | 0, hn => by
    have hne := okT_ne (trIx_in hn).1 hk
    have e : trLeft x l 1 = zipW (tabR x l (trIx x l 0)) (tabR x l (trIx x l 0)) := rfl
    rw [e, zipW_self, atS_tabR hk]
    refine .inr ⟨rfl, ⟨0, by omega, Int.le_refl _, hne⟩, ⟨0, by omega, hne, Int.le_refl _⟩, fun z ⟨j, hj, hz⟩ => ?_⟩
    have : j = 0 := by omega
    subst this; exact hz
  | n + 1, hn => by
    have ih := trLeft_hull (x := x) (l := l) hk n (by omega)
    have hne := okT_ne (trIx_in hn).1 hk
    have e : trLeft x l (n + 1 + 1) = zipW (trLeft x l (n + 1)) (tabR x l (trIx x l (n + 1))) := by rw [trLeft, if_neg (by omega)]
    rw [e, atS_zip (by rw [trLeft_len]; exact hk) (by rw [tabR_len]; exact hk), atS_tabR hk]
    refine hull_same (hull_wid2 ih hne) fun z => ?_
    constructor
    · rintro ⟨j, h, hz⟩
      by_cases e : j = n + 1
      · subst e; exact .inr hz
      · exact .inl ⟨j, by omega, hz⟩
    · rintro (⟨j, h, hz⟩ | hz)
      · exact ⟨j, by omega, hz⟩
      · exact ⟨n + 1, by omega, hz⟩
theorem mem_acc (i v : Int) : ∀ (L : List Span) (c : Span), ((accS i c L).lo ≤ v ∧ v ≤ (accS i c L).hi) ↔ (c.lo ≤ v ∧ v ≤ c.hi) ∧ ∀ s ∈ L, s.lo - i ≤ v ∧ v ≤ s.hi - i
  | [], c => by simp [accS]
  | s :: L, c => by
    have ih := mem_acc i v L ⟨max c.lo (s.lo - i), min c.hi (s.hi - i)⟩
    have e : accS i c (s :: L) = accS i ⟨max c.lo (s.lo - i), min c.hi (s.hi - i)⟩ L := rfl
    rw [e, ih]
    simp only [List.mem_cons, forall_eq_or_imp]
    have : (max c.lo (s.lo - i) ≤ v ∧ v ≤ min c.hi (s.hi - i)) ↔ (c.lo ≤ v ∧ v ≤ c.hi) ∧ s.lo - i ≤ v ∧ v ≤ s.hi - i := by omega
    rw [this, and_assoc]
theorem cntT_pos {p : Nat → Bool} {N : Nat} : 0 < cntT p N ↔ ∃ j, j < N ∧ p j = true := by
  unfold cntT
  rw [List.length_pos_iff_exists_mem]
  exact ⟨fun ⟨j, hj⟩ => ⟨j, List.mem_range.1 (List.mem_filter.1 hj).1, (List.mem_filter.1 hj).2⟩, fun ⟨j, h1, h2⟩ => ⟨j, List.mem_filter.2 ⟨List.mem_range.2 h1, h2⟩⟩⟩
end Go.Os

/- Part Sp. -/
namespace Go.Proofs.Ytadkjjnnnkfalaa.Sx
end Go.Proofs.Ytadkjjnnnkfalaa.Sx
namespace Go.Os
open Go Go.Pm Go.Oc Go.Oh
/-- What False returns. -/
def falseP (x : Sx) (l : List Tr) : List Nat × Int :=
  if openedE x l = 0 then (if canB x l then ([], 4) else ((falT l.length (badC x l) l.length).2, 0)) else ([], openedE x l)
end Go.Os
namespace Go.Proofs.Ytadkjjnnnkfalaa.Sx
open Go.RowKit Go.Pm Go.Oc Go.Oh Go.Os
set_option maxRecDepth 100000
set_option linter.unusedVariables false
set_option maxHeartbeats 8000000

end Go.Proofs.Ytadkjjnnnkfalaa.Sx

/- Part Sv. -/
namespace Go.Proofs.Ytadkjjnnnkfalaa.Sx
end Go.Proofs.Ytadkjjnnnkfalaa.Sx
namespace Go.Os
open Go Go.Pm Go.Oc Go.Oh
theorem acc_both (i : Int) (c0 : Span) : ∀ (L : List Span) (a c : Span), c.lo = max c0.lo (a.lo - i) → c.hi = min c0.hi (a.hi - i) →
    accS i c L = ⟨max c0.lo ((L.foldl (fun (a s : Span) => (⟨max a.lo s.lo, min a.hi s.hi⟩ : Span)) a).lo - i), min c0.hi ((L.foldl (fun (a s : Span) => (⟨max a.lo s.lo, min a.hi s.hi⟩ : Span)) a).hi - i)⟩
  | [], a, c, h1, h2 => by
    obtain ⟨c1, c2⟩ := c
    simp only at h1 h2
    simp only [accS, List.foldl_nil]
    rw [h1, h2]
  | s :: L, a, c, h1, h2 => by
    have e : accS i c (s :: L) = accS i ⟨max c.lo (s.lo - i), min c.hi (s.hi - i)⟩ L := rfl
    rw [e, List.foldl_cons]
    exact acc_both i c0 L _ _ (by simp only; omega) (by simp only; omega)
/-- A table that is left, by what all sums of its trials leave. -/
theorem tabK_both {x : Sx} (h : GoodS x) (L : List Tr) {i : Int} (hi : -1800 ≤ i ∧ i ≤ 1800) {k : Nat} (hk : k < x.tab.length) : tabK x L i k = ⟨max (atS x.tab k).lo ((bS x L k).lo - i), min (atS x.tab k).hi ((bS x L k).hi - i)⟩ := by
  have ht := h.tab _ (atS_mem hk)
  exact acc_both i (atS x.tab k) (sumsN x L k) ⟨-1000000, 1000000⟩ (atS x.tab k) (by simp only; omega) (by simp only; omega)
theorem okT_iff {x : Sx} (h : GoodS x) (L : List Tr) {i : Int} (hi : -1800 ≤ i ∧ i ≤ 1800) : okT x L i = true ↔ ∀ k, k < x.tab.length → (bS x L k).lo ≤ (bS x L k).hi ∧ (bS x L k).lo - (atS x.tab k).hi ≤ i ∧ i ≤ (bS x L k).hi - (atS x.tab k).lo := by
  unfold okT
  rw [List.all_eq_true]
  constructor
  · intro hh k hk
    have := hh k (List.mem_range.2 hk)
    rw [decide_eq_true_eq, tabK_both h L hi hk] at this
    simp only at this
    have ht := h.tab _ (atS_mem hk)
    omega
  · intro hh k hk
    have hk := List.mem_range.1 hk
    have := hh k hk
    rw [decide_eq_true_eq, tabK_both h L hi hk]
    simp only
    have ht := h.tab _ (atS_mem hk)
    omega
theorem mem_nIdx (x : Sx) (L : List Tr) (i : Int) : ∀ k, ((nIdx x L k).lo ≤ i ∧ i ≤ (nIdx x L k).hi) ↔ (x.idx.lo ≤ i ∧ i ≤ x.idx.hi) ∧ ∀ j, j < k → (bS x L j).lo - (atS x.tab j).hi ≤ i ∧ i ≤ (bS x L j).hi - (atS x.tab j).lo
  | 0 => by simp [nIdx]
  | k + 1 => by
    have ih := mem_nIdx x L i k
    rw [nIdx_succ]
    unfold nStep
    simp only
    constructor
    · intro hh
      obtain ⟨a, b⟩ := ih.1 ⟨by omega, by omega⟩
      refine ⟨a, fun j hj => ?_⟩
      by_cases e : j = k
      · subst e; omega
      · exact b j (by omega)
    · rintro ⟨a, b⟩
      have u := ih.2 ⟨a, fun j hj => b j (by omega)⟩
      have v := b k (by omega)
      omega
/-- With which index errors all trials can be so. -/
theorem okT_nar {x : Sx} (h : GoodS x) (L : List Tr) {i : Int} (hi : x.idx.lo ≤ i ∧ i ≤ x.idx.hi) : okT x L i = true ↔ (∀ k, k < x.tab.length → (bS x L k).lo ≤ (bS x L k).hi) ∧ (nI' x L).lo ≤ i ∧ i ≤ (nI' x L).hi := by
  have hx := h.idx
  rw [okT_iff h L (by omega)]
  unfold nI'
  rw [mem_nIdx]
  exact ⟨fun hh => ⟨fun k hk => (hh k hk).1, hi, fun k hk => (hh k hk).2⟩, fun ⟨a, _, b⟩ k hk => ⟨a k hk, b k hk⟩⟩
theorem narOk_iff {x : Sx} {L : List Tr} : narOk x L = true ↔ (∀ k, k < x.tab.length → (bS x L k).lo ≤ (bS x L k).hi) ∧ (nI' x L).lo ≤ (nI' x L).hi := by
  unfold narOk
  rw [Bool.and_eq_true, List.all_eq_true, decide_eq_true_eq]
  exact ⟨fun hh => ⟨fun k hk => by have := hh.1 k (List.mem_range.2 hk); simpa using this, hh.2⟩, fun hh => ⟨fun k hk => decide_eq_true (hh.1 k (List.mem_range.1 hk)), hh.2⟩⟩
theorem nI_in {x : Sx} {L : List Tr} (h : (nI' x L).lo ≤ (nI' x L).hi) : x.idx.lo ≤ (nI' x L).lo ∧ (nI' x L).hi ≤ x.idx.hi := by
  have a := ((mem_nIdx x L (nI' x L).lo x.tab.length).1 ⟨Int.le_refl _, h⟩).1
  have b := ((mem_nIdx x L (nI' x L).hi x.tab.length).1 ⟨h, Int.le_refl _⟩).1
  exact ⟨a.1, b.2⟩
theorem narOk_ex {x : Sx} (h : GoodS x) (L : List Tr) : narOk x L = true ↔ ∃ i, (x.idx.lo ≤ i ∧ i ≤ x.idx.hi) ∧ okT x L i = true := by
  rw [narOk_iff]
  constructor
  · rintro ⟨a, b⟩
    have c := nI_in b
    refine ⟨(nI' x L).lo, by omega, (okT_nar h L (by omega)).2 ⟨a, Int.le_refl _, b⟩⟩
  · rintro ⟨i, hi, ho⟩
    obtain ⟨a, b⟩ := (okT_nar h L hi).1 ho
    exact ⟨a, by omega⟩
theorem cnt_nar {x : Sx} (h : GoodS x) (L : List Tr) : decide (0 < cntT (okI x L) (idxN x)) = narOk x L := by
  rw [Bool.eq_iff_iff, decide_eq_true_eq, cntT_pos, narOk_ex h]
  constructor
  · rintro ⟨j, hj, hp⟩
    exact ⟨x.idx.lo + (j : Int), by unfold idxN at hj; omega, hp⟩
  · rintro ⟨i, hi, hp⟩
    refine ⟨(i - x.idx.lo).toNat, by unfold idxN; omega, ?_⟩
    unfold okI
    rw [show x.idx.lo + ((i - x.idx.lo).toNat : Int) = i by omega]; exact hp
theorem noAt_nil {x : Sx} (h : GoodS x) {L : List Tr} (hl : L.all (trB x) = true) (hn : noAt x L = true) : L = [] := by
  cases L with
  | nil => rfl
  | cons p L =>
    have hp := List.all_eq_true.1 hl p (by simp)
    have hk := (trK_lt h hp).1
    unfold noAt at hn
    rw [Bool.not_eq_true', List.any_eq_false] at hn
    have := hn (trK x p) (List.mem_range.2 hk)
    unfold atN at this
    simp at this
/-- Whether trials can be made: both say the same. -/
theorem can_nar {x : Sx} (h : GoodS x) {L : List Tr} (hl : L.all (trB x) = true) : canB x L = narOk x L := by
  unfold canB
  rw [cnt_nar h]
  cases hn : noAt x L with
  | false => rfl
  | true =>
    have := noAt_nil h hl hn
    subst this
    rw [Bool.true_or]
    symm
    rw [narOk_ex h]
    have hi := h.idx
    refine ⟨x.idx.lo, by omega, ?_⟩
    unfold okT
    rw [List.all_eq_true]
    intro k hk
    rw [decide_eq_true_eq]
    have ht := h.tab _ (atS_mem (List.mem_range.1 hk))
    have e : tabK x [] x.idx.lo k = atS x.tab k := rfl
    rw [e]; omega
theorem bad_same {x : Sx} (h : GoodS x) {l : List Tr} (hl : l.all (trB x) = true) : badC x l = badR x l := by
  funext S
  unfold badC badR
  rw [can_nar h (trs_sel hl S)]
theorem sums_sub {x : Sx} {l L : List Tr} (hs : ∀ p ∈ L, p ∈ l) {k : Nat} {s : Span} (h : s ∈ sumsN x L k) : s ∈ sumsN x l k := by
  unfold sumsN at h ⊢
  obtain ⟨p, hp, rfl⟩ := List.mem_map.1 h
  have := List.mem_filter.1 hp
  exact List.mem_map.2 ⟨p, List.mem_filter.2 ⟨hs p this.1, this.2⟩, rfl⟩
/-- Fewer trials can be made, too. -/
theorem nar_sub {x : Sx} (h : GoodS x) {l L : List Tr} (hs : ∀ p ∈ L, p ∈ l) (ho : narOk x l = true) : narOk x L = true := by
  rw [narOk_ex h] at ho ⊢
  obtain ⟨i, hi, ho⟩ := ho
  refine ⟨i, hi, ?_⟩
  unfold okT at ho ⊢
  rw [List.all_eq_true] at ho ⊢
  intro k hk
  have := ho k hk
  rw [decide_eq_true_eq] at this ⊢
  have hm := (mem_acc i (tabK x l i k).lo (sumsN x l k) (atS x.tab k)).1 ⟨Int.le_refl _, this⟩
  have hm' := (mem_acc i (tabK x l i k).lo (sumsN x L k) (atS x.tab k)).2 ⟨hm.1, fun s hs' => hm.2 s (sums_sub hs hs')⟩
  unfold tabK
  unfold tabK at hm'
  omega
theorem setN_all (n : Nat) : setN n (2 ^ n - 1) = List.range n := by
  unfold setN
  rw [List.filter_eq_self]
  intro i hi
  rw [Nat.testBit_two_pow_sub_one]
  exact decide_eq_true (List.mem_range.1 hi)
theorem setT_all (l : List Tr) : setT l (2 ^ l.length - 1) = l := by unfold setT; rw [setN_all, selA_range]
/-- False: both say the same. -/
theorem false_same (x : Sx) (l : List Tr) : falseR x l = falseP x l := by
  unfold falseR falseP
  by_cases hE : openedE x l = 0
  · rw [if_pos hE, if_pos hE]
    unfold openedE at hE
    cases hv : sxOk x with
    | false => rw [hv] at hE; cases hE
    | true =>
      rw [hv, if_pos rfl] at hE
      have htr : trsOk x l = true := by
        cases ht : trsOk x l with
        | true => rfl
        | false => rw [ht] at hE; cases hE
      have h := sxOk_iff.1 hv
      unfold trsOk at htr
      rw [Bool.and_eq_true, inB_iff] at htr
      have hl := htr.2
      have hrange : selA l (List.range l.length) = l := selA_range l
      rw [← bad_same h hl]
      rcases searches (badC x l) l.length with ⟨e1, e2, e3⟩ | ⟨e1, S, hS, e2, e3⟩
      · rw [if_pos e2]
        have := e3 (List.range l.length) (row_all _) (by intro e; have := congrArg List.length e; simp at this; rw [this] at htr; simp at htr)
        unfold badC at this
        rw [hrange] at this
        rw [if_pos (by simpa using this)]
      · rw [e3, if_neg hS.ne, e2]
        have hb := hS.isBad
        unfold badC at hb
        rw [can_nar h (trs_sel hl S)] at hb
        have : canB x l = false := by
          rw [can_nar h hl]
          cases hn : narOk x l with
          | false => rfl
          | true =>
            rw [nar_sub h (fun p hp => selA_sub hp) hn] at hb
            cases hb
        rw [this]; rfl
  · rw [if_neg hE, if_neg hE]
end Go.Os

/- Part Sw. -/
namespace Go.Proofs.Ytadkjjnnnkfalaa.Sx
end Go.Proofs.Ytadkjjnnnkfalaa.Sx
namespace Go.Os
open Go Go.Pm Go.Oc Go.Oh
theorem atS_nTab {x : Sx} {L : List Tr} {k : Nat} (h : k < x.tab.length) : atS (nTab x L x.tab.length) k = nEl x L k := by
  apply atS_eq; unfold nTab; rw [List.getElem?_map, List.getElem?_range h]; rfl
theorem ext_atS {a b : List Span} (h : a.length = b.length) (hk : ∀ k, k < a.length → atS a k = atS b k) : a = b := by
  refine List.ext_getElem h fun k h1 h2 => ?_
  have := hk k h1
  rw [atS_eq (List.getElem?_eq_getElem h1), atS_eq (List.getElem?_eq_getElem h2)] at this
  exact this
/-- Trial: both say the same. -/
theorem trial_same (x : Sx) (l : List Tr) : trialR x l = trialP x l := by
  unfold trialR trialP
  by_cases hE : openedE x l = 0
  · rw [if_pos hE, if_pos hE, setT_all]
    unfold openedE at hE
    cases hv : sxOk x with
    | false => rw [hv] at hE; cases hE
    | true =>
      have h := sxOk_iff.1 hv
      have hi := h.idx
      have hlen := h.len
      rw [tabsV_lenN]
      cases hn : narOk x l with
      | false =>
        have : (tabsN x l).length = 0 := by
          rcases Nat.eq_zero_or_pos (tabsN x l).length with h0 | h0
          · exact h0
          · obtain ⟨h1, h2⟩ := trIx_in h0
            rw [(narOk_ex h l).2 ⟨_, h2, h1⟩] at hn; cases hn
        rw [if_neg (by simp), if_pos this]
      | true =>
        obtain ⟨i, hii, ho⟩ := (narOk_ex h l).1 hn
        obtain ⟨j, hj, _⟩ := trIx_all hii ho
        rw [if_pos rfl, if_neg (by omega)]
        obtain ⟨hb, hne⟩ := narOk_iff.1 hn
        have hin := nI_in hne
        obtain ⟨N, hN⟩ : ∃ N, (tabsN x l).length = N + 1 := ⟨(tabsN x l).length - 1, by omega⟩
        have hset : ∀ i, (∃ j, j < N + 1 ∧ trIx x l j = i) ↔ ((nI' x l).lo ≤ i ∧ i ≤ (nI' x l).hi) := fun i => by
          constructor
          · rintro ⟨j, hj, rfl⟩
            obtain ⟨h1, h2⟩ := trIx_in (x := x) (l := l) (j := j) (by omega)
            exact ((okT_nar h l h2).1 h1).2
          · intro hh
            obtain ⟨j, h1, h2⟩ := trIx_all (x := x) (l := l) (i := i) (by omega) ((okT_nar h l (by omega)).2 ⟨hb, hh⟩)
            exact ⟨j, by omega, h2⟩
        rw [hN]
        have e1 : nI' x l = trIdx x l (N + 1) := by
          have a : Hull false (nI' x l) (fun i => (nI' x l).lo ≤ i ∧ i ≤ (nI' x l).hi) := .inr ⟨rfl, ⟨Int.le_refl _, hne⟩, ⟨hne, Int.le_refl _⟩, fun z hz => hz⟩
          have b := hull_same (trIdx_hull x l (N + 1)) (fun i => (hset i).symm)
          exact (hull_one a b).2 rfl
        have e2 : nTab x l x.tab.length = trLeft x l (N + 1) := by
          refine ext_atS (by rw [nTab_len, trLeft_len]) fun k hk => ?_
          rw [nTab_len] at hk
          rw [atS_nTab hk]
          have b := trLeft_hull hk N (show N < (tabsN x l).length by omega)
          have hK : ∀ i, (nI' x l).lo ≤ i ∧ i ≤ (nI' x l).hi → tabK x l i k = ⟨max (atS x.tab k).lo ((bS x l k).lo - i), min (atS x.tab k).hi ((bS x l k).hi - i)⟩ := fun i hh => tabK_both h l (by omega) hk
          have hne' : ∀ i, (nI' x l).lo ≤ i ∧ i ≤ (nI' x l).hi → (tabK x l i k).lo ≤ (tabK x l i k).hi := fun i hh => okT_ne ((okT_nar h l (by omega)).2 ⟨hb, hh⟩) hk
          have a : Hull false (nEl x l k) (fun v => ∃ j, j < N + 1 ∧ (tabK x l (trIx x l j) k).lo ≤ v ∧ v ≤ (tabK x l (trIx x l j) k).hi) := by
            refine .inr ⟨rfl, ?_, ?_, ?_⟩
            · obtain ⟨j, hj, e⟩ := (hset (nI' x l).hi).2 ⟨hne, Int.le_refl _⟩
              refine ⟨j, hj, ?_⟩
              rw [e]
              have := hne' _ ⟨hne, Int.le_refl _⟩
              rw [hK _ ⟨hne, Int.le_refl _⟩] at this ⊢
              unfold nEl
              simp only at this ⊢
              exact ⟨Int.le_refl _, this⟩
            · obtain ⟨j, hj, e⟩ := (hset (nI' x l).lo).2 ⟨Int.le_refl _, hne⟩
              refine ⟨j, hj, ?_⟩
              rw [e]
              have := hne' _ ⟨Int.le_refl _, hne⟩
              rw [hK _ ⟨Int.le_refl _, hne⟩] at this ⊢
              unfold nEl
              simp only at this ⊢
              exact ⟨this, Int.le_refl _⟩
            · rintro z ⟨j, hj, hz⟩
              have hh := (hset _).1 ⟨j, hj, rfl⟩
              rw [hK _ hh] at hz
              unfold nEl
              simp only at hz ⊢
              omega
          exact (hull_one a b).2 rfl
        rw [e1, e2]
  · rw [if_neg hE, if_neg hE]
end Go.Os

/- Part STop. -/
namespace Go.Proofs.Ytadkjjnnnkfalaa.Sx
end Go.Proofs.Ytadkjjnnnkfalaa.Sx
namespace Go.Os
open Go Go.Pm Go.Oc Go.Oh
/-- What is true is left by trials. -/
theorem trial_true {x : Sx} (h : GoodS x) {L : List Tr} (hE : openedE x L = 0) (hall : L.all (trB x) = true) {I : Int} (hI : x.idx.lo ≤ I ∧ I ≤ x.idx.hi) {V : Nat → Int} (hV : ∀ k, k < x.tab.length → (atS x.tab k).lo ≤ V k ∧ V k ≤ (atS x.tab k).hi)
    (hin : ∀ p ∈ L, (trS x p).lo ≤ I + V (trK x p) ∧ I + V (trK x p) ≤ (trS x p).hi) : ∃ T J, trialP x L = (T, J, 0) ∧ T.length = x.tab.length ∧ (J.lo ≤ I ∧ I ≤ J.hi) ∧ ∀ k, k < x.tab.length → (atS T k).lo ≤ V k ∧ V k ≤ (atS T k).hi := by
  have hx := h.idx
  have hK : ∀ k, k < x.tab.length → (tabK x L I k).lo ≤ V k ∧ V k ≤ (tabK x L I k).hi := fun k hk => by
    refine (mem_acc I (V k) _ _).2 ⟨hV k hk, fun s hs => ?_⟩
    unfold sumsN at hs
    obtain ⟨p, hp, rfl⟩ := List.mem_map.1 hs
    obtain ⟨h1, h2⟩ := List.mem_filter.1 hp
    have := hin p h1
    rw [show trK x p = k by simpa using h2] at this
    omega
  have hok : okT x L I = true := by
    unfold okT
    rw [List.all_eq_true]
    intro k hk
    have := hK k (List.mem_range.1 hk)
    rw [decide_eq_true_eq]; omega
  have hn : narOk x L = true := (narOk_ex h L).2 ⟨_, hI, hok⟩
  obtain ⟨hb, hn1⟩ := (okT_nar h L hI).1 hok
  refine ⟨nTab x L x.tab.length, nI' x L, ?_, nTab_len _ _ _, hn1, fun k hk => ?_⟩
  · rw [← trial_same]
    unfold trialR
    rw [if_pos hE, setT_all, if_pos hn]
  · rw [atS_nTab hk]
    have hv := hK k hk
    rw [tabK_both h L (by omega) hk] at hv
    unfold nEl
    simp only at hv ⊢
    omega
end Go.Os
namespace Go.Proofs.Ytadkjjnnnkfalaa.Sx
open Go.RowKit Go.Pm Go.Oc Go.Oh Go.Os
set_option maxRecDepth 100000
set_option linter.unusedVariables false

noncomputable def sxTrial : List TV → Option TV
  | [.agg [.int .i64 a0, sT, .int .i64 a1, .int .i64 a2, .int .i64 a3, sS], s] => match rowL unS sT, rowL unS sS, rowL unTr s with
    | some tab, some shade, some l => if tab.length ≤ 9000000000000 ∧ shade.length ≤ 9000000000000 ∧ l.length ≤ 9000000000000 then some (.tup [rowF1 (trialP (⟨a0, tab, ⟨a1, a2⟩, a3, shade⟩ : Sx) l).1, (trialP (⟨a0, tab, ⟨a1, a2⟩, a3, shade⟩ : Sx) l).2.1.t, .int .i64 (trialP (⟨a0, tab, ⟨a1, a2⟩, a3, shade⟩ : Sx) l).2.2]) else none
    | _, _, _ => none
  | _ => none
theorem sxTrial_ok : ∀ xs r, sxTrial xs = some r → PCalls Try.prog 45 xs r := by
  intro xs r h
  unfold sxTrial at h
  split at h
  · split at h
    · rename_i tab shade l hT hS hl
      have hT := rowL_some (un := unS) unS_nil (@unS_some) hT
      have hS := rowL_some (un := unS) unS_nil (@unS_some) hS
      have hl := rowL_some (un := unTr) unTr_nil (@unTr_some) hl
      split at h
      · rename_i hc; cases h; exact sTrial_c ⟨_, tab, ⟨_, _⟩, _, shade⟩ hT hS hc.1 hc.2.1 hl hc.2.2
      · cases h
    · cases h
  · cases h
attribute [go_sem] sxTrial
end Go.Proofs.Ytadkjjnnnkfalaa.Sx

/- Part T5. -/
namespace Go.Proofs.Ytadkjjnnnkfalaa
open Go.RowKit Go.Pm Go.Oc Go.Oh Go.Os
set_option maxRecDepth 100000
set_option linter.unusedVariables false
set_option maxHeartbeats 4000000

theorem tSpan_c (a b : Int) : PCalls Try.prog 37 [.int .i64 a, .int .i64 b] (.agg [.int .i64 a, .int .i64 b]) := by
  refine pcalls_by Try.mixes noSpec_ok (fn := Try.f37) Try.func37 rfl (by kernel_rfl) (by show 2 ≤ _; decide) ?_
  simp (decide := true) (maxSteps := 4000000) only [go_sem, Nat.reduceAdd, Nat.reduceSub, Nat.reduceMul, Nat.reduceDiv, Nat.reduceMod, Nat.reduceLT, Nat.reduceLeDiff, Nat.reduceEqDiff, Nat.reduceBEq, Nat.reduceBNe, Nat.reduceGT, Int.reduceAdd, Int.reduceSub, Int.reduceMul, Int.reduceNeg, Int.reduceLT, Int.reduceLE, Int.reduceEq, Int.reduceNe, Int.reduceBEq, Int.reduceBNe, Int.reduceToNat, Int.reduceGT, Int.reduceGE, ↓reduceIte, decide_true, decide_false, eq_self, Nat.mul_one, Nat.zero_mul, Nat.one_mul, Int.le_refl, Nat.le_refl, Int.cast_ofNat_Int, Try.f37]
noncomputable def txSpan : List TV → Option TV
  | [.int .i64 a, .int .i64 b] => some (.agg [.int .i64 a, .int .i64 b])
  | _ => none
theorem txSpan_ok : ∀ xs r, txSpan xs = some r → PCalls Try.prog 37 xs r := by
  intro xs r h
  unfold txSpan at h
  split at h
  · cases h; exact tSpan_c _ _
  · cases h
attribute [go_sem] txSpan
noncomputable def spT1 : Pm.Spec := ((((Sx.spH.one 41 Ix.xCut).one 38 Lv.glClicks).one 34 Sx.sxRead).one 37 txSpan)
@[go_sem] theorem spT1_p (f : FuncId) (xs : List TV) : spT1.p f xs = Pm.Spec.p (((((Sx.spH.one 41 Ix.xCut).one 38 Lv.glClicks).one 34 Sx.sxRead).one 37 txSpan)) f xs := rfl
@[go_sem] theorem spT1_h (f : FuncId) (ps : List PV) (hl : List PO) : spT1.h f ps hl = Pm.Spec.h (((((Sx.spH.one 41 Ix.xCut).one 38 Lv.glClicks).one 34 Sx.sxRead).one 37 txSpan)) f ps hl := rfl
@[go_sem] theorem spT1_y (Y : Pm.YS) (f : FuncId) (ps : List PV) (hl : List PO) : spT1.y Y f ps hl = Pm.Spec.y (((((Sx.spH.one 41 Ix.xCut).one 38 Lv.glClicks).one 34 Sx.sxRead).one 37 txSpan)) Y f ps hl := rfl
@[go_sem] theorem spT1_fz (f : FuncId) : spT1.fz f = Pm.Spec.fz (((((Sx.spH.one 41 Ix.xCut).one 38 Lv.glClicks).one 34 Sx.sxRead).one 37 txSpan)) f := rfl
@[go_sem] theorem spT1_fr (f : FuncId) : spT1.fr f = Pm.Spec.fr (((((Sx.spH.one 41 Ix.xCut).one 38 Lv.glClicks).one 34 Sx.sxRead).one 37 txSpan)) f := rfl
@[go_sem] theorem spT1_yf (f : FuncId) : spT1.yf f = Pm.Spec.yf (((((Sx.spH.one 41 Ix.xCut).one 38 Lv.glClicks).one 34 Sx.sxRead).one 37 txSpan)) f := rfl
@[go_sem] theorem spT1_mu (t : TypeId) : spT1.mu t = Pm.Spec.mu (((((Sx.spH.one 41 Ix.xCut).one 38 Lv.glClicks).one 34 Sx.sxRead).one 37 txSpan)) t := rfl
@[go_sem] theorem spT1_nf (t : TypeId) : spT1.nf t = Pm.Spec.nf (((((Sx.spH.one 41 Ix.xCut).one 38 Lv.glClicks).one 34 Sx.sxRead).one 37 txSpan)) t := rfl
theorem spT1_ok : SpecOk Try.prog spT1 := Spec.one_ok txSpan_ok (Spec.one_ok Sx.sxRead_ok (Spec.one_ok Lv.glClicks_ok (Spec.one_ok Ix.xCut_ok Sx.spH_ok)))
theorem exCut : Ix.cutE 1 [4] 0 2 = ([0, 2], 0, 0) := by decide +kernel
theorem exClicks : Lv.clicksP ⟨200, 312⟩ 20 60 = (-13, 0) := by decide +kernel
theorem exRd : readP ⟨100, [⟨0, 0⟩, ⟨0, 0⟩], ⟨0, 0⟩, 2, []⟩ 50 0 = (⟨48, 52⟩, 0) := by decide +kernel
theorem tLimb_c : PCalls Try.prog 35 [] (.bool true) := by
  have u1 : Go.Oc.Ix.unI [.int .i64 4] = some [4] := rfl
  have u2 : Go.Oh.unI [.int .i64 0, .int .i64 2] = some [0, 2] := Go.Oh.unI_eq [0, 2]
  have g1 : Go.Oc.Ix.rowG Go.Oc.Ix.ic [0, 2] = .sl [.int .i64 0, .int .i64 2] 2 false := rfl
  have s1 : unS [.int .i64 0, .int .i64 0, .int .i64 0, .int .i64 0] = some [⟨0, 0⟩, ⟨0, 0⟩] := unS_eq [⟨0, 0⟩, ⟨0, 0⟩]
  have s2 : unS [] = some [] := unS_nil
  refine pcalls_by Try.mixes spT1_ok (fn := Try.f35) Try.func35 rfl (by kernel_rfl) (by show 0 ≤ _; decide) ?_
  simp (decide := true) (maxSteps := 4000000) only [go_sem, Nat.reduceAdd, Nat.reduceSub, Nat.reduceMul, Nat.reduceDiv, Nat.reduceMod, Nat.reduceLT, Nat.reduceLeDiff, Nat.reduceEqDiff, Nat.reduceBEq, Nat.reduceBNe, Nat.reduceGT, Int.reduceAdd, Int.reduceSub, Int.reduceMul, Int.reduceNeg, Int.reduceLT, Int.reduceLE, Int.reduceEq, Int.reduceNe, Int.reduceBEq, Int.reduceBNe, Int.reduceToNat, Int.reduceGT, Int.reduceGE, ↓reduceIte, decide_true, decide_false, eq_self, Nat.mul_one, Nat.zero_mul, Nat.one_mul, Int.le_refl, Nat.le_refl, Int.cast_ofNat_Int, Try.f35, u1, u2, g1, s1, s2, exCut, exClicks, exRd, List.length_cons, List.length_nil, Span.t, Span.cs]
  done
noncomputable def txLimb : List TV → Option TV
  | [] => some (.bool true)
  | _ => none
theorem txLimb_ok : ∀ xs r, txLimb xs = some r → PCalls Try.prog 35 xs r := by
  intro xs r h
  unfold txLimb at h
  split at h
  · cases h; exact tLimb_c
  · cases h
attribute [go_sem] txLimb
noncomputable def spT2 : Pm.Spec := spT1.one 35 txLimb
@[go_sem] theorem spT2_p (f : FuncId) (xs : List TV) : spT2.p f xs = Pm.Spec.p (spT1.one 35 txLimb) f xs := rfl
@[go_sem] theorem spT2_h (f : FuncId) (ps : List PV) (hl : List PO) : spT2.h f ps hl = Pm.Spec.h (spT1.one 35 txLimb) f ps hl := rfl
@[go_sem] theorem spT2_y (Y : Pm.YS) (f : FuncId) (ps : List PV) (hl : List PO) : spT2.y Y f ps hl = Pm.Spec.y (spT1.one 35 txLimb) Y f ps hl := rfl
@[go_sem] theorem spT2_fz (f : FuncId) : spT2.fz f = Pm.Spec.fz (spT1.one 35 txLimb) f := rfl
@[go_sem] theorem spT2_fr (f : FuncId) : spT2.fr f = Pm.Spec.fr (spT1.one 35 txLimb) f := rfl
@[go_sem] theorem spT2_yf (f : FuncId) : spT2.yf f = Pm.Spec.yf (spT1.one 35 txLimb) f := rfl
@[go_sem] theorem spT2_mu (t : TypeId) : spT2.mu t = Pm.Spec.mu (spT1.one 35 txLimb) t := rfl
@[go_sem] theorem spT2_nf (t : TypeId) : spT2.nf t = Pm.Spec.nf (spT1.one 35 txLimb) t := rfl
theorem spT2_ok : SpecOk Try.prog spT2 := Spec.one_ok txLimb_ok spT1_ok
end Go.Proofs.Ytadkjjnnnkfalaa

/- Part TL. -/
namespace Go.Ot
open Go Go.Pm Go.Oc Go.Oh Go.Os Go.Oc.Ix
def divL : List Int := [18, 20, 24, 30, 36, 40, 45, 48, 50, 54, 60, 72, 80, 90, 96, 100, 108, 120, 144, 180, 216, 240, 300, 360]
def nD (m : Nat) : Int := divL.getD m 0
theorem div_ok : ∀ m : Nat, m < 24 → (18 ≤ nD m ∧ nD m ≤ 360) ∧ nD m * (1296000 / nD m) = 1296000 ∧ (3600 ≤ 1296000 / nD m ∧ 1296000 / nD m ≤ 72000) ∧ (2 ≤ min (12 : Int) (1 + 504000 / (1296000 / nD m)) ∧ min (12 : Int) (1 + 504000 / (1296000 / nD m)) ≤ 12) ∧
    (1296000 / nD m) * (min (12 : Int) (1 + 504000 / (1296000 / nD m)) - 1) ≤ 504000 ∧ min (12 : Int) (1 + 504000 / (1296000 / nD m)) ≤ nD m ∧ 504000 / (1296000 / nD m) ≤ 140 ∧ 0 ≤ 504000 / (1296000 / nD m) := by decide
/-- The sextant whose arc was cut. -/
def limbX (step : Int) (K : Nat) (wide i0 i1 W : Int) : Sx := ⟨step, List.replicate K ⟨-wide, wide⟩, ⟨-i0, i1⟩, W, []⟩
theorem limb_good {step wide i0 i1 W : Int} {K : Nat} (h1 : 1 ≤ step ∧ step ≤ 72000) (h2 : 2 ≤ K ∧ K ≤ 12) (h3 : step * ((K : Int) - 1) ≤ 504000) (h4 : 0 ≤ wide ∧ wide ≤ 600) (h5 : 0 ≤ i0 ∧ i0 ≤ 300) (h6 : 0 ≤ i1 ∧ i1 ≤ 300) (h7 : 0 ≤ W ∧ W ≤ 20) : GoodS (limbX step K wide i0 i1 W) := by
  refine ⟨h1, ?_, ?_, ?_, ?_, ?_, ?_, ?_⟩
  · show 2 ≤ (List.replicate K _).length ∧ (List.replicate K _).length ≤ 12; rw [List.length_replicate]; exact h2
  · intro s hs
    have := List.eq_of_mem_replicate hs
    subst this; simp only; omega
  · show step * (((List.replicate K (⟨-wide, wide⟩ : Span)).length : Int) - 1) ≤ 504000; rw [List.length_replicate]; exact h3
  · show -1800 ≤ -i0 ∧ -i0 ≤ i1 ∧ i1 ≤ 1800; omega
  · show 0 ≤ W ∧ W ≤ 60; omega
  · show ([] : List Span).length ≤ 6; simp
  · intro s hs; cases hs
theorem limb_at {step wide i0 i1 W : Int} {K k : Nat} (h : k < K) : atS (limbX step K wide i0 i1 W).tab k = ⟨-wide, wide⟩ := by
  apply atS_eq; show (List.replicate K _)[k]? = _; rw [List.getElem?_replicate, if_pos h]
theorem limb_shs (step wide i0 i1 W : Int) (K : Nat) : shs (limbX step K wide i0 i1 W) 0 = ⟨-W, W⟩ := rfl
theorem limb_read {step wide i0 i1 W : Int} {K k : Nat} (g : GoodS (limbX step K wide i0 i1 W)) (h : k < K) : readP (limbX step K wide i0 i1 W) ((k : Int) * step) 0 = (⟨(k : Int) * step + -i0 + -wide + -W, (k : Int) * step + i1 + wide + W⟩, 0) := by
  have hlen : (limbX step K wide i0 i1 W).tab.length = K := List.length_replicate
  have hb := at_b g (k := k) (by rw [hlen]; exact h)
  have hc := corr_at g (k := k) (by rw [hlen]; exact h)
  have hst : (limbX step K wide i0 i1 W).step = step := rfl
  rw [hst] at hb hc
  have hr : isRd (limbX step K wide i0 i1 W) ((k : Int) * step) 0 = true := isRd_iff.2 ⟨⟨hb.1, hb.2.1⟩, Int.le_refl _, by show (0 : Int) ≤ 2 ^ 0 - 1; decide⟩
  unfold readP
  rw [sxOk_iff.2 g, if_pos rfl, hr, if_pos rfl]
  unfold readS
  rw [hst, hc, limb_at h, show (0 : Int).toNat = 0 from rfl, limb_shs]
  rfl
/-- What is tried at a line. -/
def limbT (step A N I W : Int) (bits : List Int) (k : Nat) : Tr := ⟨(k : Int) * step, 0, arcI A N k + I + chosen (-W) W (pickI bits ((k : Int) + 4))⟩
def limbL (step A N I W : Int) (bits : List Int) (k : Nat) : List Tr := (List.range (min k 8)).map (limbT step A N I W bits)
theorem limbL_len (step A N I W : Int) (bits : List Int) (k : Nat) : (limbL step A N I W bits k).length = min k 8 := by simp [limbL]
theorem limbL_succ (step A N I W : Int) (bits : List Int) {k : Nat} (h : k < 8) : limbL step A N I W bits (k + 1) = limbL step A N I W bits k ++ [limbT step A N I W bits k] := by
  unfold limbL
  rw [Nat.min_eq_left (show k + 1 ≤ 8 by omega), Nat.min_eq_left (show k ≤ 8 by omega), List.range_succ, List.map_append]; rfl
theorem limbL_same (step A N I W : Int) (bits : List Int) {k : Nat} (h : ¬ k < 8) : limbL step A N I W bits (k + 1) = limbL step A N I W bits k := by
  unfold limbL
  rw [Nat.min_eq_right (show 8 ≤ k + 1 by omega), Nat.min_eq_right (show 8 ≤ k by omega)]
theorem limb_trial {step wide i0 i1 W A N I : Int} {K : Nat} (bits : List Int) (g : GoodS (limbX step K wide i0 i1 W)) (h2 : 2 ≤ K) (h4 : 0 ≤ wide ∧ wide ≤ 600) (h5 : 0 ≤ i0 ∧ i0 ≤ 300) (h6 : 0 ≤ i1 ∧ i1 ≤ 300) (h7 : 0 ≤ W ∧ W ≤ 20) (hI : -i0 ≤ I ∧ I ≤ i1)
    (ha : ∀ k, k < K → -wide ≤ arcI A N k - (k : Int) * step ∧ arcI A N k - (k : Int) * step ≤ wide) :
    ∃ T J, trialP (limbX step K wide i0 i1 W) (limbL step A N I W bits K) = (T, J, 0) ∧ T.length = K ∧ (J.lo ≤ I ∧ I ≤ J.hi) ∧ ∀ k, k < K → (atS T k).lo ≤ arcI A N k - (k : Int) * step ∧ arcI A N k - (k : Int) * step ≤ (atS T k).hi := by
  have hlen : (limbX step K wide i0 i1 W).tab.length = K := List.length_replicate
  have hst : (limbX step K wide i0 i1 W).step = step := rfl
  have mem : ∀ p ∈ limbL step A N I W bits K, ∃ k, k < K ∧ p = limbT step A N I W bits k := fun p hp => by
    obtain ⟨k, hk, rfl⟩ := List.mem_map.1 hp
    have := List.mem_range.1 hk
    exact ⟨k, by omega, rfl⟩
  have ok : ∀ k, k < K → trB (limbX step K wide i0 i1 W) (limbT step A N I W bits k) = true := fun k hk => by
    have hb := at_b g (k := k) (by rw [hlen]; exact hk)
    rw [hst] at hb
    have hak := ha k hk
    have hc := chosen_mem (pickI bits ((k : Int) + 4)) (show -W ≤ W by omega)
    unfold trB limbT
    rw [Bool.and_eq_true, Bool.and_eq_true, isRd_iff, decide_eq_true_eq, inB_iff]
    refine ⟨⟨⟨hb.1, hb.2.1⟩, Int.le_refl _, by show (0 : Int) ≤ 2 ^ 0 - 1; decide⟩, Int.mul_emod_left _ _, ?_⟩
    simp only; omega
  have hall : (limbL step A N I W bits K).all (trB (limbX step K wide i0 i1 W)) = true := List.all_eq_true.2 fun p hp => by
    obtain ⟨k, hk, rfl⟩ := mem p hp; exact ok k hk
  have hE : openedE (limbX step K wide i0 i1 W) (limbL step A N I W bits K) = 0 := by
    unfold openedE trsOk
    rw [sxOk_iff.2 g, if_pos rfl, hall, limbL_len, inB_iff.2 (by omega)]; rfl
  obtain ⟨T, J, h1, h2', h3, h4'⟩ := trial_true g hE hall (I := I) hI (V := fun k => arcI A N k - (k : Int) * step) (fun k hk => by
    rw [hlen] at hk
    rw [limb_at hk]
    exact ha k hk) (fun p hp => by
    obtain ⟨k, hk, rfl⟩ := mem p hp
    have hc := chosen_mem (pickI bits ((k : Int) + 4)) (show -W ≤ W by omega)
    have hKk : trK (limbX step K wide i0 i1 W) (limbT step A N I W bits k) = k := (trK_iff g (ok k hk) k).1 rfl
    rw [hKk]
    unfold trS
    rw [show (limbT step A N I W bits k).s.toNat = 0 from rfl, limb_shs]
    unfold limbT
    simp only; omega)
  rw [hlen] at h2' h4'
  exact ⟨T, J, h1, h2', h3, h4'⟩
end Go.Ot
namespace Go.Proofs.Ytadkjjnnnkfalaa
open Go.RowKit Go.Pm Go.Oc Go.Oh Go.Os Go.Ot
set_option maxRecDepth 100000
set_option linter.unusedVariables false
set_option maxHeartbeats 8000000

theorem tDivided_c (n : Int) : PCalls Try.prog 39 [.int .i64 n] (.int .i64 (nD (n % 24).toNat)) := by
  have m1 := Int.emod_nonneg n (show (24 : Int) ≠ 0 by decide)
  have m2 := Int.emod_lt_of_pos n (show (0 : Int) < 24 by decide)
  obtain ⟨m, hm⟩ : ∃ m : Nat, n % 24 = m := ⟨(n % 24).toNat, (Int.toNat_of_nonneg m1).symm⟩
  rw [hm] at m2 ⊢
  have hx : divL[m]? = some (nD m) := by
    have hl : m < divL.length := by show m < 24; omega
    unfold nD; rw [List.getD_eq_getElem?_getD, List.getElem?_eq_getElem hl]; rfl
  have hd := ints_at hx
  rw [Nat.mul_one] at hd
  have hd : List.drop m ([.int .i64 18, .int .i64 20, .int .i64 24, .int .i64 30, .int .i64 36, .int .i64 40, .int .i64 45, .int .i64 48, .int .i64 50, .int .i64 54, .int .i64 60, .int .i64 72, .int .i64 80, .int .i64 90, .int .i64 96, .int .i64 100, .int .i64 108, .int .i64 120, .int .i64 144, .int .i64 180, .int .i64 216, .int .i64 240, .int .i64 300, .int .i64 360] : List TV) = TV.int .i64 (nD m) :: _ := hd
  have d1 : (0 : Int) < 24 ∧ (24 : Int) ≤ 9223372036854775807 := by decide
  refine pcalls_by Try.mixes Sx.spH_ok (fn := Try.f39) Try.func39 rfl (by kernel_rfl) (by show 1 ≤ _; decide) ?_
  simp (decide := true) (maxSteps := 4000000) only [go_sem, Nat.reduceAdd, Nat.reduceSub, Nat.reduceMul, Nat.reduceDiv, Nat.reduceMod, Nat.reduceLT, Nat.reduceLeDiff, Nat.reduceEqDiff, Nat.reduceBEq, Nat.reduceBNe, Nat.reduceGT, Int.reduceAdd, Int.reduceSub, Int.reduceMul, Int.reduceNeg, Int.reduceLT, Int.reduceLE, Int.reduceEq, Int.reduceNe, Int.reduceBEq, Int.reduceBNe, Int.reduceToNat, Int.reduceGT, Int.reduceGE, ↓reduceIte, decide_true, decide_false, eq_self, Nat.mul_one, Nat.zero_mul, Nat.one_mul, Int.le_refl, Nat.le_refl, Int.cast_ofNat_Int, Try.f39, d1, hm, m2, hd, Int.toNat_natCast]
noncomputable def txDivided : List TV → Option TV
  | [.int .i64 n] => some (.int .i64 (nD (n % 24).toNat))
  | _ => none
theorem txDivided_ok : ∀ xs r, txDivided xs = some r → PCalls Try.prog 39 xs r := by
  intro xs r h
  unfold txDivided at h
  split at h
  · cases h; exact tDivided_c _
  · cases h
attribute [go_sem] txDivided
noncomputable def spTL : Pm.Spec := (((spT2.one 39 txDivided).one 40 Ix.xBest).one 43 Sx.sxCheck).one 45 Sx.sxTrial
@[go_sem] theorem spTL_p (f : FuncId) (xs : List TV) : spTL.p f xs = Pm.Spec.p ((((spT2.one 39 txDivided).one 40 Ix.xBest).one 43 Sx.sxCheck).one 45 Sx.sxTrial) f xs := rfl
@[go_sem] theorem spTL_h (f : FuncId) (ps : List PV) (hl : List PO) : spTL.h f ps hl = Pm.Spec.h ((((spT2.one 39 txDivided).one 40 Ix.xBest).one 43 Sx.sxCheck).one 45 Sx.sxTrial) f ps hl := rfl
@[go_sem] theorem spTL_y (Y : Pm.YS) (f : FuncId) (ps : List PV) (hl : List PO) : spTL.y Y f ps hl = Pm.Spec.y ((((spT2.one 39 txDivided).one 40 Ix.xBest).one 43 Sx.sxCheck).one 45 Sx.sxTrial) Y f ps hl := rfl
@[go_sem] theorem spTL_fz (f : FuncId) : spTL.fz f = Pm.Spec.fz ((((spT2.one 39 txDivided).one 40 Ix.xBest).one 43 Sx.sxCheck).one 45 Sx.sxTrial) f := rfl
@[go_sem] theorem spTL_fr (f : FuncId) : spTL.fr f = Pm.Spec.fr ((((spT2.one 39 txDivided).one 40 Ix.xBest).one 43 Sx.sxCheck).one 45 Sx.sxTrial) f := rfl
@[go_sem] theorem spTL_yf (f : FuncId) : spTL.yf f = Pm.Spec.yf ((((spT2.one 39 txDivided).one 40 Ix.xBest).one 43 Sx.sxCheck).one 45 Sx.sxTrial) f := rfl
@[go_sem] theorem spTL_mu (t : TypeId) : spTL.mu t = Pm.Spec.mu ((((spT2.one 39 txDivided).one 40 Ix.xBest).one 43 Sx.sxCheck).one 45 Sx.sxTrial) t := rfl
@[go_sem] theorem spTL_nf (t : TypeId) : spTL.nf t = Pm.Spec.nf ((((spT2.one 39 txDivided).one 40 Ix.xBest).one 43 Sx.sxCheck).one 45 Sx.sxTrial) t := rfl
theorem spTL_ok : SpecOk Try.prog spTL := Spec.one_ok Sx.sxTrial_ok (Spec.one_ok Sx.sxCheck_ok (Spec.one_ok Ix.xBest_ok (Spec.one_ok txDivided_ok spT2_ok)))
theorem TopLimb_c (t : Int) {l : List Int} {s : TV} (hl : IsRow ic s l) (hll : l.length ≤ 17592186044415) (n0 n1 : Int) {bits : List Int} {u : TV} (hb : IsRow ic u bits) (lb : bits.length ≤ 9223372036854775806) (_ : ∀ n ∈ bits, -9223372036854775808 ≤ n ∧ n ≤ 9223372036854775807) :
    PCalls Try.prog 6 [.agg [.int .i64 t, s], .agg [.int .i64 n0, .int .i64 n1], u] (.bool true) := by
  have rI := rowI_is hb
  unfold rowL at rI
  simp only [unI_nil] at rI
  have rH : rowL Go.Oc.Ix.unI s = some l := Go.Oc.Ix.rowL_is (fun l => by rw [show l.flatMap Go.Oh.ic = ints l from ic_ints l]; exact Go.Oc.Ix.unI_eq l) hl
  unfold rowL at rH
  have m1 := Int.emod_nonneg n0 (show (24 : Int) ≠ 0 by decide)
  have m2 := Int.emod_lt_of_pos n0 (show (0 : Int) < 24 by decide)
  obtain ⟨⟨hN1, hN2⟩, hNs, ⟨hs1, hs2⟩, ⟨hK1, hK2⟩, hK3, hK4, hK5, hK6⟩ := div_ok (n0 % 24).toNat (by omega)
  obtain ⟨N, hN⟩ : ∃ N, nD (n0 % 24).toNat = N := ⟨_, rfl⟩
  rw [hN] at hN1 hN2 hNs hs1 hs2 hK1 hK2 hK3 hK4 hK5 hK6
  have hin : inB N 1 2000 = true := inB_iff.2 (by omega)
  refine pcalls_by Try.mixes spTL_ok (fn := Try.f6) Try.func6 rfl (by kernel_rfl) (by show 3 ≤ _; decide) ?_
  cases hh : Go.Oc.Ix.headOk t l with
  | false =>
    have hB : Go.Oc.Ix.bestE t l N = (0, 0, 10) := by unfold Go.Oc.Ix.bestE; rw [if_pos hh]
    have b : ((10 : Int) != 0) = true := rfl
    rcases hl with ⟨rfl, rfl⟩ | ⟨g, rfl⟩
    · have z : ([] : List Int).length ≤ 17592186044415 := by simp
      have u0 : Go.Oc.Ix.unI [] = some [] := rfl
      simp (decide := true) (maxSteps := 4000000) only [go_sem, Nat.reduceAdd, Nat.reduceSub, Nat.reduceMul, Nat.reduceDiv, Nat.reduceMod, Nat.reduceLT, Nat.reduceLeDiff, Nat.reduceEqDiff, Nat.reduceBEq, Nat.reduceBNe, Nat.reduceGT, Int.reduceAdd, Int.reduceSub, Int.reduceMul, Int.reduceNeg, Int.reduceLT, Int.reduceLE, Int.reduceEq, Int.reduceNe, Int.reduceBEq, Int.reduceBNe, Int.reduceToNat, Int.reduceGT, Int.reduceGE, ↓reduceIte, decide_true, decide_false, eq_self, Nat.mul_one, Nat.zero_mul, Nat.one_mul, Int.le_refl, Nat.le_refl, Int.cast_ofNat_Int, Try.f6, hN, u0, z, hB, b, Bool.true_or]
    · simp (decide := true) (maxSteps := 4000000) only [go_sem, Nat.reduceAdd, Nat.reduceSub, Nat.reduceMul, Nat.reduceDiv, Nat.reduceMod, Nat.reduceLT, Nat.reduceLeDiff, Nat.reduceEqDiff, Nat.reduceBEq, Nat.reduceBNe, Nat.reduceGT, Int.reduceAdd, Int.reduceSub, Int.reduceMul, Int.reduceNeg, Int.reduceLT, Int.reduceLE, Int.reduceEq, Int.reduceNe, Int.reduceBEq, Int.reduceBNe, Int.reduceToNat, Int.reduceGT, Int.reduceGE, ↓reduceIte, decide_true, decide_false, eq_self, Nat.mul_one, Nat.zero_mul, Nat.one_mul, Int.le_refl, Nat.le_refl, Int.cast_ofNat_Int, Try.f6, hN, rH, hll, hB, b, Bool.true_or]
  | true =>
    obtain ⟨C, h, hx, hA, hB, hC⟩ := Go.Oc.Ix.best_cut hh hin
    have hxl := (List.getElem?_eq_some_iff.1 hx).1
    obtain ⟨f, rfl⟩ := hl.ne (by omega)
    have hd := ints_at hx
    rw [Nat.mul_one] at hd
    rw [ic_ints] at rH ⊢
    have hCl : (C : Int) < l.length := by omega
    have wl : IntKind.i64.wrap ((l.length : Int) - 1) = (l.length : Int) - 1 := wrap_in (by omega) (by omega)
    have hinC : inB (C : Int) 0 ((l.length : Int) - 1) = true := inB_iff.2 (by omega)
    obtain ⟨A, hAA⟩ : ∃ A, t * h = A := ⟨_, rfl⟩
    rw [hAA] at hA hB hC
    have wA : IntKind.i64.wrap A = A := wrap_in (by omega) (by omega)
    have hNp : 0 < N := by omega
    have hpos : 0 < N * A := Int.mul_pos hNp (by omega)
    have hft := Go.Oc.Ix.faultTo_bound (all := A) (n := N) hNp N.toNat
    have hft : 0 ≤ Go.Oc.Ix.faultP A N ∧ Go.Oc.Ix.faultP A N ≤ N := hft
    have hE1 : Go.Oc.Ix.engrP (Go.Oc.Ix.faultP A N) (N * A) ≤ 129600000 := Go.Oc.Ix.engr_le hpos (by
      have := Int.mul_le_mul_of_nonneg_left (show (1 : Int) ≤ A by omega) (show 0 ≤ N by omega)
      omega)
    have hE0 : 0 ≤ Go.Oc.Ix.engrP (Go.Oc.Ix.faultP A N) (N * A) := by
      unfold Go.Oc.Ix.engrP
      exact Int.ediv_nonneg (by omega) (by omega)
    have hwide := fun (wide : Int) (hw : Go.Oc.Ix.engrP (Go.Oc.Ix.faultP A N) (N * A) ≤ 100 * wide) (k : Nat) (hk : k < N.toNat) => Go.Oc.Ix.arc_wide (A := A) (n := N) (step := 1296000 / N) (wide := wide) (k := k) (by omega) hNp hNs hw hk
    obtain ⟨E, hE⟩ : ∃ E, Go.Oc.Ix.engrP (Go.Oc.Ix.faultP A N) (N * A) = E := ⟨_, rfl⟩
    rw [hE] at hE0 hE1 hB hC hwide
    have dU : (-4000000000000000000 ≤ E ∧ E ≤ 4000000000000000000) ∧ (0 : Int) < 100 ∧ (100 : Int) ≤ 4000000000000000000 := by omega
    obtain ⟨WD, hWD⟩ : ∃ WD, -((-E) / 100) = WD := ⟨_, rfl⟩
    have hWE : E ≤ 100 * WD ∧ 0 ≤ WD := by omega
    have hwide := hwide WD hWE.1
    obtain ⟨PL, hPL⟩ : ∃ PL : List Int, (List.range N.toNat).map (fun k : Nat => Go.Oc.Ix.placeP A N k) = PL := ⟨_, rfl⟩
    have hPl : PL.length = N.toNat := by rw [← hPL]; simp
    have hPk : ∀ k, k < N.toNat → PL[k]? = some (Go.Oc.Ix.placeP A N k) := fun k hk => by rw [← hPL, List.getElem?_map, List.getElem?_range hk]; rfl
    rw [hPL] at hC
    have hPn : ¬ PL.length = 0 := by omega
    have hrG : Go.Oc.Ix.rowG Go.Oc.Ix.ic PL = .sl (ints PL) N.toNat false := by
      unfold Go.Oc.Ix.rowG; rw [if_neg hPn, hPl, Go.Oc.Ix.ic_ints]
    have hNt : (N.toNat : Int) = N := Int.toNat_of_nonneg (by omega)
    have b0 : ((0 : Int) != 0) = false := rfl
    by_cases hw : WD > 600
    · simp (decide := true) (maxSteps := 4000000) only [go_sem, Nat.reduceAdd, Nat.reduceSub, Nat.reduceMul, Nat.reduceDiv, Nat.reduceMod, Nat.reduceLT, Nat.reduceLeDiff, Nat.reduceEqDiff, Nat.reduceBEq, Nat.reduceBNe, Nat.reduceGT, Int.reduceAdd, Int.reduceSub, Int.reduceMul, Int.reduceNeg, Int.reduceLT, Int.reduceLE, Int.reduceEq, Int.reduceNe, Int.reduceBEq, Int.reduceBNe, Int.reduceToNat, Int.reduceGT, Int.reduceGE, ↓reduceIte, decide_true, decide_false, eq_self, Nat.mul_one, Nat.zero_mul, Nat.one_mul, Int.le_refl, Nat.le_refl, Int.cast_ofNat_Int, Try.f6, hN, rH, hll, hB, hC, b0, wl, hinC, hrG, dU, hWD, hNt, hw, Bool.false_or, Bool.not_true, bne_self_eq_false]
    · have hw : ¬ WD > 600 := hw
      have hne : ¬ N = 0 := by omega
      obtain ⟨ST, hST⟩ : ∃ ST, 1296000 / N = ST := ⟨_, rfl⟩
      rw [hST] at hNs hs1 hs2 hK1 hK2 hK3 hK4 hK5 hK6 hwide
      have q1 : (1296000 : Int).tdiv N = ST := by rw [Int.tdiv_eq_ediv_of_nonneg (by decide), hST]
      have wST : IntKind.i64.wrap ST = ST := wrap_in (by omega) (by omega)
      have hne2 : ¬ ST = 0 := by omega
      obtain ⟨Q, hQ⟩ : ∃ Q, 504000 / ST = Q := ⟨_, rfl⟩
      have q2 : (504000 : Int).tdiv ST = Q := by rw [Int.tdiv_eq_ediv_of_nonneg (by decide), hQ]
      rw [hQ] at hK1 hK2 hK3 hK4 hK5 hK6
      have wQ : IntKind.i64.wrap Q = Q := wrap_in (by omega) (by omega)
      have wQ1 : IntKind.i64.wrap (1 + Q) = 1 + Q := wrap_in (by omega) (by omega)
      obtain ⟨K, hK⟩ : ∃ K : Nat, min (12 : Int) (1 + Q) = K := ⟨(min (12 : Int) (1 + Q)).toNat, by omega⟩
      rw [hK] at hK1 hK2 hK3 hK4
      have hK2' : 2 ≤ K ∧ K ≤ 12 := by omega
      have wWD : IntKind.i64.wrap (0 - WD) = -WD := by rw [wrap_in (by omega) (by omega)]; omega
      have d3 : (0 : Int) < 300 ∧ (300 : Int) ≤ 9223372036854775807 := by decide
      have d2 : (0 : Int) < 20 ∧ (20 : Int) ≤ 9223372036854775807 := by decide
      have p1 := Int.emod_nonneg (pickI bits 0) (show (300 : Int) ≠ 0 by decide)
      have p2 := Int.emod_lt_of_pos (pickI bits 0) (show (0 : Int) < 300 by decide)
      have p3 := Int.emod_nonneg (pickI bits 1) (show (300 : Int) ≠ 0 by decide)
      have p4 := Int.emod_lt_of_pos (pickI bits 1) (show (0 : Int) < 300 by decide)
      have p5 := Int.emod_nonneg (pickI bits 2) (show (20 : Int) ≠ 0 by decide)
      have p6 := Int.emod_lt_of_pos (pickI bits 2) (show (0 : Int) < 20 by decide)
      obtain ⟨i0, hi0⟩ : ∃ i, pickI bits 0 % 300 = i := ⟨_, rfl⟩
      obtain ⟨i1, hi1⟩ : ∃ i, pickI bits 1 % 300 = i := ⟨_, rfl⟩
      obtain ⟨W, hW⟩ : ∃ i, pickI bits 2 % 20 = i := ⟨_, rfl⟩
      rw [hi0] at p1 p2
      rw [hi1] at p3 p4
      rw [hW] at p5 p6
      have wi0 : IntKind.i64.wrap (0 - i0) = -i0 := by rw [wrap_in (by omega) (by omega)]; omega
      have wW : IntKind.i64.wrap (0 - W) = -W := by rw [wrap_in (by omega) (by omega)]; omega
      have hg : GoodS (limbX ST K WD i0 i1 W) := limb_good (by omega) hK2' hK3 (by omega) (by omega) (by omega) (by omega)
      have hgv := sxOk_iff.2 hg
      have hch := chosen_mem (pickI bits 3) (show -i0 ≤ i1 by omega)
      have i_1 : -9223372036854775808 ≤ -i0 ∧ -i0 ≤ 9223372036854775807 := by omega
      have i_2 : -9223372036854775808 ≤ i1 ∧ i1 ≤ 9223372036854775807 := by omega
      have i_3 : -9223372036854775808 ≤ -W ∧ -W ≤ 9223372036854775807 := by omega
      have i_4 : -9223372036854775808 ≤ W ∧ W ≤ 9223372036854775807 := by omega
      obtain ⟨I, hI⟩ : ∃ I, chosen (-i0) i1 (pickI bits 3) = I := ⟨_, rfl⟩
      rw [hI] at hch
      have ha : ∀ k, k < K → -WD ≤ Go.Oc.Ix.arcI A N k - (k : Int) * ST ∧ Go.Oc.Ix.arcI A N k - (k : Int) * ST ≤ WD := fun k hk => hwide k (by omega)
      obtain ⟨T, J, hTr, hTl, hJ, hTk⟩ := limb_trial bits hg hK2'.1 (by omega) (by omega) (by omega) (by omega) hch ha (A := A) (N := N)
      have hK0 : ¬ K = 0 := by omega
      have hrF : rowF1 T = .sl (T.flatMap Span.cs) K true := by unfold rowF1; rw [hTl, if_neg hK0]
      have hinJ : inB I J.lo J.hi = true := inB_iff.2 hJ
      have e0 : Sx.mk ST (List.replicate K ⟨-WD, WD⟩) ⟨-i0, i1⟩ W [] = limbX ST K WD i0 i1 W := rfl
      have hM : ∀ j, j < K → 0 ≤ (j : Int) * ST ∧ (j : Int) * ST ≤ 504000 := fun j hj => by
        have hlen : (limbX ST K WD i0 i1 W).tab.length = K := List.length_replicate
        have := at_b hg (k := j) (by rw [hlen]; exact hj)
        exact ⟨this.1, this.2.2⟩
      have dA : ∀ p : Int, 0 ≤ p ∧ p ≤ 80001 → (-4000000000000000000 ≤ p * 1296000 ∧ p * 1296000 ≤ 4000000000000000000) ∧ 0 < A ∧ A ≤ 4000000000000000000 := fun p hp => by omega
      have hrd := fun k (hk : k < K) => limb_read hg hk
      obtain ⟨X, hX⟩ : ∃ X, limbX ST K WD i0 i1 W = X := ⟨_, rfl⟩
      rw [hX] at e0 hrd hTr hgv
      have hLlen := limbL_len ST A N I W bits K
      have lT0 : K ≤ 9000000000000 := by omega
      have lL0 : min K 8 ≤ 9000000000000 := by omega
      have lR0 : ([] : List Span).length ≤ 9000000000000 := by simp
      simp (decide := true) (maxSteps := 4000000) only [go_sem, Nat.reduceAdd, Nat.reduceSub, Nat.reduceMul, Nat.reduceDiv, Nat.reduceMod, Nat.reduceLT, Nat.reduceLeDiff, Nat.reduceEqDiff, Nat.reduceBEq, Nat.reduceBNe, Nat.reduceGT, Int.reduceAdd, Int.reduceSub, Int.reduceMul, Int.reduceNeg, Int.reduceLT, Int.reduceLE, Int.reduceEq, Int.reduceNe, Int.reduceBEq, Int.reduceBNe, Int.reduceToNat, Int.reduceGT, Int.reduceGE, ↓reduceIte, decide_true, decide_false, eq_self, Nat.mul_one, Nat.zero_mul, Nat.one_mul, Int.le_refl, Nat.le_refl, Int.cast_ofNat_Int, Try.f6, hN, rH, hll, hB, hC, b0, wl, hinC, hrG, dU, hWD, hNt, hw, hne, q1, wST, rI, lb, d3, d2, hi0, hi1, hW, wi0, Bool.false_or, Bool.not_true, bne_self_eq_false]
      refine pwpC_loopU (A := { k : Nat // k ≤ K }) [2, 3, 4, 7, 8, 9, 11, 13, 14, 15] (fun k => [(16, .t (.int .i64 k.1))]) (fun k => [(2, .box [.t (.int .i64 ST), .own ((List.replicate k.1 (⟨-WD, WD⟩ : Span)).flatMap Span.cs) k.1 3, .t (.int .i64 (-i0)), .t (.int .i64 i1), .t (.int .i64 W), .t .nilSl]), (3, .tok k.1 29)]) (fun k => K - k.1) ⟨0, by omega⟩ (by decide) (fun _ => by rfl) ?_ fun Q1 hQ1 ⟨k, hk⟩ I1 hI1 => ?_
      · simp (decide := true) (maxSteps := 4000000) only [go_sem, Nat.reduceAdd, Nat.reduceSub, Nat.reduceMul, Nat.reduceDiv, Nat.reduceMod, Nat.reduceLT, Nat.reduceLeDiff, Nat.reduceEqDiff, Nat.reduceBEq, Nat.reduceBNe, Nat.reduceGT, Int.reduceAdd, Int.reduceSub, Int.reduceMul, Int.reduceNeg, Int.reduceLT, Int.reduceLE, Int.reduceEq, Int.reduceNe, Int.reduceBEq, Int.reduceBNe, Int.reduceToNat, Int.reduceGT, Int.reduceGE, ↓reduceIte, decide_true, decide_false, eq_self, Nat.mul_one, Nat.zero_mul, Nat.one_mul, Int.le_refl, Nat.le_refl, Int.cast_ofNat_Int, List.replicate_zero]
      · by_cases hlt : (k : Int) < K
        · have hc1 : IntKind.i64.wrap (k + 1) = ((k + 1 : Nat) : Int) := by rw [wrap_in (by omega) (by omega)]; omega
          have hfl : (List.flatMap Span.cs (List.replicate k (⟨-WD, WD⟩ : Span))).length = k * 2 := by rw [flat_len Span.cs (n := 2) (fun _ => rfl), List.length_replicate]
          have hr : (k + 1) * 16 ≤ 140737488355328 := by omega
          have hrs : List.replicate (k + 1) (⟨-WD, WD⟩ : Span) = List.replicate k ⟨-WD, WD⟩ ++ [⟨-WD, WD⟩] := List.replicate_succ'
          simp (decide := true) (maxSteps := 4000000) only [go_sem, Nat.reduceAdd, Nat.reduceSub, Nat.reduceMul, Nat.reduceDiv, Nat.reduceMod, Nat.reduceLT, Nat.reduceLeDiff, Nat.reduceEqDiff, Nat.reduceBEq, Nat.reduceBNe, Nat.reduceGT, Int.reduceAdd, Int.reduceSub, Int.reduceMul, Int.reduceNeg, Int.reduceLT, Int.reduceLE, Int.reduceEq, Int.reduceNe, Int.reduceBEq, Int.reduceBNe, Int.reduceToNat, Int.reduceGT, Int.reduceGE, ↓reduceIte, decide_true, decide_false, eq_self, Nat.mul_one, Nat.zero_mul, Nat.one_mul, Int.le_refl, Nat.le_refl, Int.cast_ofNat_Int, hne2, q2, wQ, wQ1, hK, hlt, wWD, hfl, hr]
          refine hI1 _ ⟨k + 1, by omega⟩ (by simp only; omega) ?_
          simp (decide := true) (maxSteps := 4000000) only [go_sem, Nat.reduceAdd, Nat.reduceSub, Nat.reduceMul, Nat.reduceDiv, Nat.reduceMod, Nat.reduceLT, Nat.reduceLeDiff, Nat.reduceEqDiff, Nat.reduceBEq, Nat.reduceBNe, Nat.reduceGT, Int.reduceAdd, Int.reduceSub, Int.reduceMul, Int.reduceNeg, Int.reduceLT, Int.reduceLE, Int.reduceEq, Int.reduceNe, Int.reduceBEq, Int.reduceBNe, Int.reduceToNat, Int.reduceGT, Int.reduceGE, ↓reduceIte, decide_true, decide_false, eq_self, Nat.mul_one, Nat.zero_mul, Nat.one_mul, Int.le_refl, Nat.le_refl, Int.cast_ofNat_Int, hc1, hrs, List.flatMap_append, Span.cs]
        · have hke : k = K := by omega
          subst hke
          simp (decide := true) (maxSteps := 4000000) only [go_sem, Nat.reduceAdd, Nat.reduceSub, Nat.reduceMul, Nat.reduceDiv, Nat.reduceMod, Nat.reduceLT, Nat.reduceLeDiff, Nat.reduceEqDiff, Nat.reduceBEq, Nat.reduceBNe, Nat.reduceGT, Int.reduceAdd, Int.reduceSub, Int.reduceMul, Int.reduceNeg, Int.reduceLT, Int.reduceLE, Int.reduceEq, Int.reduceNe, Int.reduceBEq, Int.reduceBNe, Int.reduceToNat, Int.reduceGT, Int.reduceGE, ↓reduceIte, decide_true, decide_false, eq_self, Nat.mul_one, Nat.zero_mul, Nat.one_mul, Int.le_refl, Nat.le_refl, Int.cast_ofNat_Int, hne2, q2, wQ, wQ1, hK, hlt]
          refine hQ1 _ _ ?_
          have hTB : (List.replicate k (⟨-WD, WD⟩ : Span)).length = k := List.length_replicate
          have rTB := unS_eq (List.replicate k (⟨-WD, WD⟩ : Span))
          obtain ⟨TB, hTBn⟩ : ∃ TB, List.replicate k (⟨-WD, WD⟩ : Span) = TB := ⟨_, rfl⟩
          rw [hTBn] at hTB rTB e0
          rw [hTBn]
          simp (decide := true) (maxSteps := 4000000) only [go_sem, Nat.reduceAdd, Nat.reduceSub, Nat.reduceMul, Nat.reduceDiv, Nat.reduceMod, Nat.reduceLT, Nat.reduceLeDiff, Nat.reduceEqDiff, Nat.reduceBEq, Nat.reduceBNe, Nat.reduceGT, Int.reduceAdd, Int.reduceSub, Int.reduceMul, Int.reduceNeg, Int.reduceLT, Int.reduceLE, Int.reduceEq, Int.reduceNe, Int.reduceBEq, Int.reduceBNe, Int.reduceToNat, Int.reduceGT, Int.reduceGE, ↓reduceIte, decide_true, decide_false, eq_self, Nat.mul_one, Nat.zero_mul, Nat.one_mul, Int.le_refl, Nat.le_refl, Int.cast_ofNat_Int, hK0, hTB, rTB, lT0, lR0, unS_nil, e0, hgv, b0, rI, lb, i_1, i_2, hI]
          refine pwpC_loopU (A := { j : Nat // j ≤ k }) [2, 3, 4, 7, 8, 9, 11, 13, 14, 15, 17] (fun j => [(19, .t (.int .i64 j.1)), (18, .own ((limbL ST A N I W bits j.1).flatMap Tr.cs) (min j.1 8) 4)]) (fun j => [(4, .tok (min j.1 8) 115)]) (fun j => k - j.1) ⟨0, by omega⟩ (by decide) (fun _ => by rfl) ?_ fun Q2 hQ2 ⟨j, hj⟩ I2 hI2 => ?_
          · simp (decide := true) (maxSteps := 4000000) only [go_sem, Nat.reduceAdd, Nat.reduceSub, Nat.reduceMul, Nat.reduceDiv, Nat.reduceMod, Nat.reduceLT, Nat.reduceLeDiff, Nat.reduceEqDiff, Nat.reduceBEq, Nat.reduceBNe, Nat.reduceGT, Int.reduceAdd, Int.reduceSub, Int.reduceMul, Int.reduceNeg, Int.reduceLT, Int.reduceLE, Int.reduceEq, Int.reduceNe, Int.reduceBEq, Int.reduceBNe, Int.reduceToNat, Int.reduceGT, Int.reduceGE, ↓reduceIte, decide_true, decide_false, eq_self, Nat.mul_one, Nat.zero_mul, Nat.one_mul, Int.le_refl, Nat.le_refl, Int.cast_ofNat_Int, limbL, List.range_zero, List.map_nil]
            try rfl
          · by_cases hlj : (j : Int) < k
            · have hjN : (j : Int) < N := by omega
              have hPj := hPk j (by omega)
              have dP := ints_at hPj
              rw [Nat.mul_one] at dP
              have pb := Go.Oc.Ix.place_bd (A := A) (n := N) (k := j) (by omega) hNp (by omega)
              have haj := ha j (by omega)
              have hMj := hM j (by omega)
              have hrj := hrd j (by omega)
              have hLs := limbL_succ ST A N I W bits (k := j)
              have hLe := limbL_same ST A N I W bits (k := j)
              have hLj := limbL_len ST A N I W bits j
              have hTj : limbT ST A N I W bits j = ⟨(j : Int) * ST, 0, Go.Oc.Ix.arcI A N j + I + chosen (-W) W (pickI bits ((j : Int) + 4))⟩ := rfl
              have hR : Go.Oc.Ix.arcI A N j = Go.Oc.Ix.placeP A N j * 1296000 / A := rfl
              obtain ⟨p, hp⟩ : ∃ p, Go.Oc.Ix.placeP A N j = p := ⟨_, rfl⟩
              rw [hp] at pb dP hR
              have dAj := dA p pb
              obtain ⟨R, hRR⟩ : ∃ R, p * 1296000 / A = R := ⟨_, rfl⟩
              rw [hRR] at hR
              rw [hR] at haj hTj
              have hcj := chosen_mem (pickI bits ((j : Int) + 4)) (show -W ≤ W by omega)
              obtain ⟨Wj, hWj⟩ : ∃ c, chosen (-W) W (pickI bits ((j : Int) + 4)) = c := ⟨_, rfl⟩
              rw [hWj] at hcj hTj
              have w1 : IntKind.i64.wrap (p * 1296000) = p * 1296000 := wrap_in (by omega) (by omega)
              have w2 : IntKind.i64.wrap ((j : Int) * ST) = (j : Int) * ST := wrap_in (by omega) (by omega)
              have w3 : IntKind.i64.wrap ((j : Int) + 4) = (j : Int) + 4 := wrap_in (by omega) (by omega)
              have w4 : IntKind.i64.wrap (R + I) = R + I := wrap_in (by omega) (by omega)
              have w5 : IntKind.i64.wrap (R + I + Wj) = R + I + Wj := wrap_in (by omega) (by omega)
              have w6 : IntKind.i64.wrap ((j : Int) + 1) = ((j + 1 : Nat) : Int) := by rw [wrap_in (by omega) (by omega)]; omega
              obtain ⟨M, hMM⟩ : ∃ M, (j : Int) * ST = M := ⟨_, rfl⟩
              rw [hMM] at w2 hMj hrj haj hTj
              have hinR : inB (R + I + Wj) (M + -i0 + -WD + -W) (M + i1 + WD + W) = true := inB_iff.2 (by omega)
              by_cases h8 : j < 8
              · have h8' : (j : Int) < 8 := by omega
                have mn : min j 8 = j := by omega
                have mn1 : min (j + 1) 8 = j + 1 := by omega
                have hfl : (List.flatMap Tr.cs (limbL ST A N I W bits j)).length = j * 3 := by rw [flat_len Tr.cs (n := 3) (fun _ => rfl), hLj, mn]
                have hr : (j + 1) * 24 ≤ 140737488355328 := by omega
                simp (decide := true) (maxSteps := 4000000) only [go_sem, Nat.reduceAdd, Nat.reduceSub, Nat.reduceMul, Nat.reduceDiv, Nat.reduceMod, Nat.reduceLT, Nat.reduceLeDiff, Nat.reduceEqDiff, Nat.reduceBEq, Nat.reduceBNe, Nat.reduceGT, Int.reduceAdd, Int.reduceSub, Int.reduceMul, Int.reduceNeg, Int.reduceLT, Int.reduceLE, Int.reduceEq, Int.reduceNe, Int.reduceBEq, Int.reduceBNe, Int.reduceToNat, Int.reduceGT, Int.reduceGE, ↓reduceIte, decide_true, decide_false, eq_self, Nat.mul_one, Nat.zero_mul, Nat.one_mul, Int.le_refl, Nat.le_refl, Int.cast_ofNat_Int, hNt, hK0, hTB, hlj, hjN, dP, hd, hCl, Int.toNat_natCast, w1, hAA, wA, dAj, hRR, hMM, w2, rTB, lT0, lR0, unS_nil, e0, hrj, b0, wW, w3, rI, lb, i_3, i_4, hWj, w4, w5, hinR, h8', mn, hfl, hr, Span.t, Span.cs, Bool.not_true]
                refine hI2 _ ⟨j + 1, by omega⟩ (by simp only; omega) ?_
                simp (decide := true) (maxSteps := 4000000) only [go_sem, Nat.reduceAdd, Nat.reduceSub, Nat.reduceMul, Nat.reduceDiv, Nat.reduceMod, Nat.reduceLT, Nat.reduceLeDiff, Nat.reduceEqDiff, Nat.reduceBEq, Nat.reduceBNe, Nat.reduceGT, Int.reduceAdd, Int.reduceSub, Int.reduceMul, Int.reduceNeg, Int.reduceLT, Int.reduceLE, Int.reduceEq, Int.reduceNe, Int.reduceBEq, Int.reduceBNe, Int.reduceToNat, Int.reduceGT, Int.reduceGE, ↓reduceIte, decide_true, decide_false, eq_self, Nat.mul_one, Nat.zero_mul, Nat.one_mul, Int.le_refl, Nat.le_refl, Int.cast_ofNat_Int, w6, hLs h8, hTj, mn, mn1, List.flatMap_append, Tr.cs]
              · have h8' : ¬ (j : Int) < 8 := by omega
                have mn : min j 8 = 8 := by omega
                have mn1 : min (j + 1) 8 = 8 := by omega
                simp (decide := true) (maxSteps := 4000000) only [go_sem, Nat.reduceAdd, Nat.reduceSub, Nat.reduceMul, Nat.reduceDiv, Nat.reduceMod, Nat.reduceLT, Nat.reduceLeDiff, Nat.reduceEqDiff, Nat.reduceBEq, Nat.reduceBNe, Nat.reduceGT, Int.reduceAdd, Int.reduceSub, Int.reduceMul, Int.reduceNeg, Int.reduceLT, Int.reduceLE, Int.reduceEq, Int.reduceNe, Int.reduceBEq, Int.reduceBNe, Int.reduceToNat, Int.reduceGT, Int.reduceGE, ↓reduceIte, decide_true, decide_false, eq_self, Nat.mul_one, Nat.zero_mul, Nat.one_mul, Int.le_refl, Nat.le_refl, Int.cast_ofNat_Int, hNt, hK0, hTB, hlj, hjN, dP, hd, hCl, Int.toNat_natCast, w1, hAA, wA, dAj, hRR, hMM, w2, rTB, lT0, lR0, unS_nil, e0, hrj, b0, wW, w3, rI, lb, i_3, i_4, hWj, w4, w5, hinR, h8', Span.t, Span.cs, Bool.not_true]
                refine hI2 _ ⟨j + 1, by omega⟩ (by simp only; omega) ?_
                simp (decide := true) (maxSteps := 4000000) only [go_sem, Nat.reduceAdd, Nat.reduceSub, Nat.reduceMul, Nat.reduceDiv, Nat.reduceMod, Nat.reduceLT, Nat.reduceLeDiff, Nat.reduceEqDiff, Nat.reduceBEq, Nat.reduceBNe, Nat.reduceGT, Int.reduceAdd, Int.reduceSub, Int.reduceMul, Int.reduceNeg, Int.reduceLT, Int.reduceLE, Int.reduceEq, Int.reduceNe, Int.reduceBEq, Int.reduceBNe, Int.reduceToNat, Int.reduceGT, Int.reduceGE, ↓reduceIte, decide_true, decide_false, eq_self, Nat.mul_one, Nat.zero_mul, Nat.one_mul, Int.le_refl, Nat.le_refl, Int.cast_ofNat_Int, w6, hLe h8, mn, mn1]
            · have hje : j = k := by omega
              subst hje
              simp (decide := true) (maxSteps := 4000000) only [go_sem, Nat.reduceAdd, Nat.reduceSub, Nat.reduceMul, Nat.reduceDiv, Nat.reduceMod, Nat.reduceLT, Nat.reduceLeDiff, Nat.reduceEqDiff, Nat.reduceBEq, Nat.reduceBNe, Nat.reduceGT, Int.reduceAdd, Int.reduceSub, Int.reduceMul, Int.reduceNeg, Int.reduceLT, Int.reduceLE, Int.reduceEq, Int.reduceNe, Int.reduceBEq, Int.reduceBNe, Int.reduceToNat, Int.reduceGT, Int.reduceGE, ↓reduceIte, decide_true, decide_false, eq_self, Nat.mul_one, Nat.zero_mul, Nat.one_mul, Int.le_refl, Nat.le_refl, Int.cast_ofNat_Int, hTB, hlj]
              refine hQ2 _ _ ?_
              have hm0 : ¬ min j 8 = 0 := by omega
              have dK : (0 : Int) < j ∧ (j : Int) ≤ 9223372036854775807 := by omega
              have r1 := Int.emod_nonneg n1 (show (j : Int) ≠ 0 by omega)
              have r2 := Int.emod_lt_of_pos n1 (show (0 : Int) < j by omega)
              obtain ⟨m, hm⟩ : ∃ m : Nat, n1 % (j : Int) = m := ⟨(n1 % (j : Int)).toNat, (Int.toNat_of_nonneg r1).symm⟩
              rw [hm] at r2
              obtain ⟨tm, htm⟩ := get_lt (l := T) (k := m) (by omega)
              have dT := flat_at Span.cs (n := 2) (fun _ => rfl) htm
              have hk2 := hTk m (by omega)
              rw [atS_eq htm] at hk2
              have hmN : (m : Int) < N := by omega
              have hPm := hPk m (by omega)
              have dP := ints_at hPm
              rw [Nat.mul_one] at dP
              have pb := Go.Oc.Ix.place_bd (A := A) (n := N) (k := m) (by omega) hNp (by omega)
              have hMm := hM m (by omega)
              have ham := ha m (by omega)
              have hR : Go.Oc.Ix.arcI A N m = Go.Oc.Ix.placeP A N m * 1296000 / A := rfl
              obtain ⟨p, hp⟩ : ∃ p, Go.Oc.Ix.placeP A N m = p := ⟨_, rfl⟩
              rw [hp] at pb dP hR
              have dAm := dA p pb
              obtain ⟨R, hRR⟩ : ∃ R, p * 1296000 / A = R := ⟨_, rfl⟩
              rw [hRR] at hR
              rw [hR] at hk2 ham
              have w1 : IntKind.i64.wrap (p * 1296000) = p * 1296000 := wrap_in (by omega) (by omega)
              have w2 : IntKind.i64.wrap ((m : Int) * ST) = (m : Int) * ST := wrap_in (by omega) (by omega)
              have w3 : IntKind.i64.wrap (R - (m : Int) * ST) = R - (m : Int) * ST := wrap_in (by omega) (by omega)
              have hinT : inB (R - (m : Int) * ST) tm.lo tm.hi = true := inB_iff.2 hk2
              simp (decide := true) (maxSteps := 4000000) only [go_sem, Nat.reduceAdd, Nat.reduceSub, Nat.reduceMul, Nat.reduceDiv, Nat.reduceMod, Nat.reduceLT, Nat.reduceLeDiff, Nat.reduceEqDiff, Nat.reduceBEq, Nat.reduceBNe, Nat.reduceGT, Int.reduceAdd, Int.reduceSub, Int.reduceMul, Int.reduceNeg, Int.reduceLT, Int.reduceLE, Int.reduceEq, Int.reduceNe, Int.reduceBEq, Int.reduceBNe, Int.reduceToNat, Int.reduceGT, Int.reduceGE, ↓reduceIte, decide_true, decide_false, eq_self, Nat.mul_one, Nat.zero_mul, Nat.one_mul, Int.le_refl, Nat.le_refl, Int.cast_ofNat_Int, hNt, hK0, hTB, rTB, lT0, lR0, unS_nil, e0, hm0, unTr_eq, hLlen, lL0, hTr, hrF, b0, hTl, hinJ, dK, hm, r2, dT, hmN, dP, hd, hCl, Int.toNat_natCast, w1, hAA, wA, dAm, hRR, w2, w3, hinT, Span.t, Span.cs, bne_self_eq_false, Bool.not_true]
              done
end Go.Proofs.Ytadkjjnnnkfalaa

/- Part Tx. -/
namespace Go.Proofs.Ytadkjjnnnkfalaa
open Go.RowKit Go.Pm Go.Oc Go.Oh Go.Os
set_option maxRecDepth 100000
set_option linter.unusedVariables false

theorem cSlice {k : Nat} {t e : TypeId} {cs : List TV} (hu : Program.underlying Try.prog t = some (.slice e)) (h : cellsOk Try.prog (k + 1) t cs) : ∃ x, cs = [x] ∧ cellsOk Try.prog (k + 1) t [x] := by
  have h' := h
  unfold cellsOk at h'
  rw [hu] at h'
  rcases h' with h' | ⟨rows, full, h', _⟩
  · exact ⟨_, h', by rw [← h']; exact h⟩
  · exact ⟨_, h', by rw [← h']; exact h⟩
theorem cInt {k : Nat} {cs : List TV} (h : cellsOk Try.prog (k + 1) 3 cs) : ∃ n, cs = [.int .i64 n] ∧ -9223372036854775808 ≤ n ∧ n ≤ 9223372036854775807 := cellsOk_i64 (by kernel_rfl) h
theorem cBool {k : Nat} {cs : List TV} (h : cellsOk Try.prog (k + 1) 4 cs) : ∃ b, cs = [.bool b] := cellsOk_boolT (by kernel_rfl) h
theorem cSpan {k : Nat} {cs : List TV} (h : cellsOk Try.prog (k + 2) 29 cs) : ∃ s : Span, cs = s.cs ∧ (-9223372036854775808 ≤ s.lo ∧ s.lo ≤ 9223372036854775807) ∧ -9223372036854775808 ≤ s.hi ∧ s.hi ≤ 9223372036854775807 := by
  have h := cellsOk_tys (ts := [3, 3]) (by kernel_rfl) h
  obtain ⟨_, r, rfl, h1, h⟩ := seqOk_cons h
  obtain ⟨_, r, rfl, h2, h⟩ := seqOk_cons h
  cases seqOk_nil h
  obtain ⟨a, rfl, ha⟩ := cInt h1
  obtain ⟨b, rfl, hb⟩ := cInt h2
  exact ⟨⟨a, b⟩, rfl, ha, hb⟩
theorem cInts {x : TV} {k : Nat} (h : cellsOk Try.prog (k + 2) 39 [x]) : ∃ l : List Int, IsRow ic x l ∧ l.length ≤ 17592186044415 ∧ ∀ n ∈ l, -9223372036854775808 ≤ n ∧ n ≤ 9223372036854775807 := by
  obtain ⟨l, h1, h2, h3, _⟩ := cellsOk_row (e := 3) (c := ic) (p := fun n => -9223372036854775808 ≤ n ∧ n ≤ 9223372036854775807) (by kernel_rfl) (fun cs hc => cInt hc) h
  rw [show Program.bytesOf Try.prog 3 = 8 by kernel_rfl] at h3
  unfold reachBytes at h3
  exact ⟨l, h1, by omega, h2⟩
theorem cSpans {x : TV} {k : Nat} (h : cellsOk Try.prog (k + 3) 23 [x]) : ∃ l : List Span, IsRow Span.cs x l ∧ l.length ≤ 9000000000000 ∧ ∀ s ∈ l, (-9223372036854775808 ≤ s.lo ∧ s.lo ≤ 9223372036854775807) ∧ -9223372036854775808 ≤ s.hi ∧ s.hi ≤ 9223372036854775807 := by
  obtain ⟨l, h1, h2, h3, _⟩ := cellsOk_row (e := 29) (c := Span.cs) (p := fun s : Span => (-9223372036854775808 ≤ s.lo ∧ s.lo ≤ 9223372036854775807) ∧ -9223372036854775808 ≤ s.hi ∧ s.hi ≤ 9223372036854775807) (by kernel_rfl) (fun cs hc => cSpan hc) h
  rw [show Program.bytesOf Try.prog 29 = 16 by kernel_rfl] at h3
  unfold reachBytes at h3
  exact ⟨l, h1, by omega, h2⟩
theorem cPair {k : Nat} {t : TypeId} (ht : tysOf Try.prog t = some [3, 3]) {cs : List TV} (h : cellsOk Try.prog (k + 2) t cs) : ∃ a b : Int, cs = [.int .i64 a, .int .i64 b] ∧ (-9223372036854775808 ≤ a ∧ a ≤ 9223372036854775807) ∧ -9223372036854775808 ≤ b ∧ b ≤ 9223372036854775807 := by
  have h := cellsOk_tys ht h
  obtain ⟨_, r, rfl, h1, h⟩ := seqOk_cons h
  obtain ⟨_, r, rfl, h2, h⟩ := seqOk_cons h
  cases seqOk_nil h
  obtain ⟨a, rfl, ha⟩ := cInt h1
  obtain ⟨b, rfl, hb⟩ := cInt h2
  exact ⟨a, b, rfl, ha, hb⟩
theorem cTriple {k : Nat} {t : TypeId} (ht : tysOf Try.prog t = some [3, 3, 3]) {cs : List TV} (h : cellsOk Try.prog (k + 2) t cs) : ∃ a b c : Int, cs = [.int .i64 a, .int .i64 b, .int .i64 c] := by
  have h := cellsOk_tys ht h
  obtain ⟨_, r, rfl, h1, h⟩ := seqOk_cons h
  obtain ⟨_, r, rfl, h2, h⟩ := seqOk_cons h
  obtain ⟨_, r, rfl, h3, h⟩ := seqOk_cons h
  cases seqOk_nil h
  obtain ⟨a, rfl, _⟩ := cInt h1
  obtain ⟨b, rfl, _⟩ := cInt h2
  obtain ⟨c, rfl, _⟩ := cInt h3
  exact ⟨a, b, c, rfl⟩
theorem xInt {x : TV} (h : argOk Try.prog 3 x) : ∃ n, x = .int .i64 n ∧ -9223372036854775808 ≤ n ∧ n ≤ 9223372036854775807 := argOk_i64 (by kernel_rfl) h
theorem xInts {x : TV} (h : argOk Try.prog 39 x) : ∃ l : List Int, IsRow ic x l ∧ l.length ≤ 17592186044415 ∧ ∀ n ∈ l, -9223372036854775808 ≤ n ∧ n ≤ 9223372036854775807 := cInts (argOk_sl (e := 3) (by kernel_rfl) h)
theorem xSpans {x : TV} (h : argOk Try.prog 23 x) : ∃ l : List Span, IsRow Span.cs x l ∧ l.length ≤ 9000000000000 ∧ ∀ s ∈ l, (-9223372036854775808 ≤ s.lo ∧ s.lo ≤ 9223372036854775807) ∧ -9223372036854775808 ≤ s.hi ∧ s.hi ≤ 9223372036854775807 := cSpans (argOk_sl (e := 29) (by kernel_rfl) h)
end Go.Proofs.Ytadkjjnnnkfalaa

/- Part TLx. -/
namespace Go.Proofs.Ytadkjjnnnkfalaa
open Go.RowKit Go.Pm Go.Oc Go.Oh Go.Os
set_option maxRecDepth 100000
set_option linter.unusedVariables false

theorem xHead {x : TV} (h : argOk Try.prog 106 x) : ∃ (t : Int) (l : List Int) (s : TV), x = .agg [.int .i64 t, s] ∧ IsRow ic s l ∧ l.length ≤ 17592186044415 := by
  obtain ⟨cs, rfl, h'⟩ := argOk_agg (ts := [3, 39]) (by kernel_rfl) h
  have h := cellsOk_tys (ts := [3, 39]) (by kernel_rfl) h'
  obtain ⟨_, r, rfl, h1, h⟩ := seqOk_cons h
  obtain ⟨_, r, rfl, h2, h⟩ := seqOk_cons h
  cases seqOk_nil h
  obtain ⟨t, rfl, _⟩ := cInt h1
  obtain ⟨s, rfl, h2⟩ := cSlice (e := 3) (by kernel_rfl) h2
  obtain ⟨l, hl, ll, _⟩ := cInts h2
  exact ⟨t, l, s, rfl, hl, ll⟩
theorem xTwo {x : TV} (h : argOk Try.prog 107 x) : ∃ a b : Int, x = .agg [.int .i64 a, .int .i64 b] ∧ (-9223372036854775808 ≤ a ∧ a ≤ 9223372036854775807) ∧ -9223372036854775808 ≤ b ∧ b ≤ 9223372036854775807 := by
  have ht : tysOf Try.prog 107 = some [3, 3] := by kernel_rfl
  obtain ⟨cs, rfl, h'⟩ := argOk_agg ht h
  obtain ⟨a, b, rfl, h1, h2⟩ := cPair ht h'
  exact ⟨a, b, rfl, h1, h2⟩
end Go.Proofs.Ytadkjjnnnkfalaa
