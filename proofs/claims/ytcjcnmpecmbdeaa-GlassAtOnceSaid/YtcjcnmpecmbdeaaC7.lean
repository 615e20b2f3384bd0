/- What the claim leans on, text 7. -/
import Derived.Test.YtcjcnmpecmbdeaaC6
set_option linter.unusedSimpArgs false
set_option linter.unusedVariables false

/- Part Gq2. -/
namespace Go.Oc
open Go Go.Pm
/-- Where a number is first in a list, from a place on. -/
def plc (n : Int) : Nat → List Int → Int
  | _, [] => -1
  | k, x :: l => if x = n then k else plc n (k + 1) l
theorem plc_ge (n : Int) : ∀ (k : Nat) (l : List Int), -1 ≤ plc n k l ∧ plc n k l ≤ k + l.length
  | k, [] => by unfold plc; simp only [List.length_nil]; omega
  | k, x :: l => by
    have := plc_ge n (k + 1) l
    unfold plc
    simp only [List.length_cons]
    split <;> omega
theorem plc_in {n : Int} : ∀ {k : Nat} {l : List Int}, n ∈ l → 0 ≤ plc n k l
  | k, [], h => by cases h
  | k, x :: l, h => by
    unfold plc
    split
    · omega
    · rename_i hx
      exact plc_in (by rcases List.mem_cons.1 h with h | h; exact absurd h.symm hx; exact h)
theorem plc_out {n : Int} : ∀ {k : Nat} {l : List Int}, n ∉ l → plc n k l = -1
  | k, [], _ => rfl
  | k, x :: l, h => by
    unfold plc
    rw [if_neg (fun e => h (by rw [e]; simp)), plc_out (fun e => h (List.mem_cons_of_mem _ e))]
/-- The blanks of some objectives. -/
def fl (l : List Ob) : List Int := l.flatMap fun o => [o.f, o.s]
theorem fl_snoc (l : List Ob) (o : Ob) : fl (l ++ [o]) = fl l ++ [o.f, o.s] := by unfold fl; rw [List.flatMap_append]; rfl
theorem fl_len (l : List Ob) : (fl l).length = 2 * l.length := by
  induction l with
  | nil => rfl
  | cons o l ih => unfold fl at ih ⊢; rw [List.flatMap_cons, List.length_append, ih]; simp only [List.length_cons, List.length_nil]; omega
theorem fl_mem {l : List Ob} {n : Int} : n ∈ fl l ↔ ∃ o ∈ l, n = o.f ∨ n = o.s := by
  unfold fl; rw [List.mem_flatMap]
  constructor
  · rintro ⟨o, h, e⟩; exact ⟨o, h, by simpa using e⟩
  · rintro ⟨o, h, e⟩; exact ⟨o, h, by simpa using e⟩
/-- One objective more, none of whose blanks is taken. -/
theorem ValO_snoc {B : List Blank} {T : List Span} {w : Want} {l : List Ob} {o : Ob} (hl : ValO (goodO B T w) (free B.length B.length Tk.none) l) (hg : goodO B T w o = true) (h1 : o.f ∉ fl l) (h2 : o.s ∉ fl l) : ValO (goodO B T w) (free B.length B.length Tk.none) (l ++ [o]) := by
  obtain ⟨⟨a, b, c⟩, d, e⟩ := goodO_free hg
  refine ⟨fun q hq => ?_, ?_⟩
  · rcases List.mem_append.1 hq with hq | hq
    · exact hl.1 q hq
    · rw [List.mem_singleton] at hq; subst hq
      exact ⟨hg, a, b, c, d, e⟩
  · rw [List.pairwise_append]
    refine ⟨hl.2, List.pairwise_singleton _ _, fun q hq x hx => ?_⟩
    rw [List.mem_singleton] at hx; subst hx
    rw [fl_mem] at h1 h2
    refine ⟨fun e => h1 ⟨q, hq, .inl e.symm⟩, fun e => h2 ⟨q, hq, .inl e.symm⟩, fun e => h1 ⟨q, hq, .inr e.symm⟩, fun e => h2 ⟨q, hq, .inr e.symm⟩⟩
/-- Of objectives at once: the next one's blanks are not met yet. -/
theorem fl_free {B : List Blank} {T : List Span} {w : Want} {l : List Ob} (hl : ValO (goodO B T w) (free B.length B.length Tk.none) l) {k : Nat} {o : Ob} (ho : l[k]? = some o) : o.f ∉ fl (l.take k) ∧ o.s ∉ fl (l.take k) := by
  have hpk : (l.take (k + 1)).Pairwise DisO := hl.2.sublist (List.take_sublist _ _)
  rw [take_snoc ho, List.pairwise_append] at hpk
  rw [fl_mem, fl_mem]
  constructor <;> (rintro ⟨q, hq, e⟩; have d := hpk.2.2 q hq o (by simp); unfold DisO at d; omega)
/-- The objective that numbers choose. -/
def obCh (bits : List Int) (n m : Nat) (i : Nat) : Ob := ⟨pickI bits (5 * i) % n, pickI bits (5 * i + 1) % n, pickI bits (5 * i + 2) % m, pickI bits (5 * i + 3) % m, pickI bits (5 * i + 4) % m⟩
end Go.Oc
namespace Go.Proofs.Ytcjcnmpecmbdeaa
open Go.RowKit Go.Pm Go.Oc
set_option maxRecDepth 100000
set_option linter.unusedVariables false
set_option maxHeartbeats 4000000

theorem Place_c {l : List Int} {s : TV} (hs : IsRow ic s l) (hl : l.length ≤ 9223372036854775806) (n : Int) : PCalls Try.prog 47 [s, .int .i64 n] (.int .i64 (plc n 0 l)) := by
  have wl : IntKind.i64.wrap ((l.length : Int) - 1) = (l.length : Int) - 1 := wrap_in (by omega) (by omega)
  refine pcalls_by Try.mixes noSpec_ok (fn := Try.f47) Try.func47 rfl (by kernel_rfl) (by show 2 ≤ _; decide) ?_
  rcases hs with ⟨rfl, rfl⟩ | ⟨f, rfl⟩
  all_goals
    try simp only [List.length_nil, Int.cast_ofNat_Int] at wl
    simp (decide := true) (maxSteps := 4000000) only [go_sem, Nat.reduceAdd, Nat.reduceSub, Nat.reduceMul, Nat.reduceDiv, Nat.reduceMod, Nat.reduceLT, Nat.reduceLeDiff, Nat.reduceEqDiff, Nat.reduceBEq, Nat.reduceBNe, Nat.reduceGT, Int.reduceAdd, Int.reduceSub, Int.reduceMul, Int.reduceNeg, Int.reduceLT, Int.reduceLE, Int.reduceEq, Int.reduceNe, Int.reduceBEq, Int.reduceBNe, Int.reduceToNat, Int.reduceGT, Int.reduceGE, ↓reduceIte, decide_true, decide_false, eq_self, Nat.mul_one, Nat.zero_mul, Nat.one_mul, Int.le_refl, Nat.le_refl, Int.cast_ofNat_Int, Try.f47, wl, List.length_nil]
  · refine pwpC_loopU (A := Unit) [0, 1] (fun _ => [(6, .t (.int .i64 (0 - 1))), (5, .t (.int .i64 (-1)))]) (fun _ => []) (fun _ => 0) () (by decide) (fun _ => by rfl) ?_ fun Q1 hQ1 _ I1 hI1 => ?_
    · simp (decide := true) (maxSteps := 4000000) only [go_sem, Nat.reduceAdd, Nat.reduceSub, Nat.reduceMul, Nat.reduceDiv, Nat.reduceMod, Nat.reduceLT, Nat.reduceLeDiff, Nat.reduceEqDiff, Nat.reduceBEq, Nat.reduceBNe, Nat.reduceGT, Int.reduceAdd, Int.reduceSub, Int.reduceMul, Int.reduceNeg, Int.reduceLT, Int.reduceLE, Int.reduceEq, Int.reduceNe, Int.reduceBEq, Int.reduceBNe, Int.reduceToNat, Int.reduceGT, Int.reduceGE, ↓reduceIte, decide_true, decide_false, eq_self, Nat.mul_one, Nat.zero_mul, Nat.one_mul, Int.le_refl, Nat.le_refl, Int.cast_ofNat_Int]
      first | done | exact ⟨rfl, rfl⟩ | rfl
    · have hn : ¬ ((0 : Int) - 1 ≥ 0) := by omega
      simp (decide := true) (maxSteps := 4000000) only [go_sem, Nat.reduceAdd, Nat.reduceSub, Nat.reduceMul, Nat.reduceDiv, Nat.reduceMod, Nat.reduceLT, Nat.reduceLeDiff, Nat.reduceEqDiff, Nat.reduceBEq, Nat.reduceBNe, Nat.reduceGT, Int.reduceAdd, Int.reduceSub, Int.reduceMul, Int.reduceNeg, Int.reduceLT, Int.reduceLE, Int.reduceEq, Int.reduceNe, Int.reduceBEq, Int.reduceBNe, Int.reduceToNat, Int.reduceGT, Int.reduceGE, ↓reduceIte, decide_true, decide_false, eq_self, Nat.mul_one, Nat.zero_mul, Nat.one_mul, Int.le_refl, Nat.le_refl, Int.cast_ofNat_Int, hn]
      refine hQ1 _ _ ?_
      simp (decide := true) (maxSteps := 4000000) only [go_sem, Nat.reduceAdd, Nat.reduceSub, Nat.reduceMul, Nat.reduceDiv, Nat.reduceMod, Nat.reduceLT, Nat.reduceLeDiff, Nat.reduceEqDiff, Nat.reduceBEq, Nat.reduceBNe, Nat.reduceGT, Int.reduceAdd, Int.reduceSub, Int.reduceMul, Int.reduceNeg, Int.reduceLT, Int.reduceLE, Int.reduceEq, Int.reduceNe, Int.reduceBEq, Int.reduceBNe, Int.reduceToNat, Int.reduceGT, Int.reduceGE, ↓reduceIte, decide_true, decide_false, eq_self, Nat.mul_one, Nat.zero_mul, Nat.one_mul, Int.le_refl, Nat.le_refl, Int.cast_ofNat_Int, plc]
  · refine pwpC_loopU (A := { k : Nat // k ≤ l.length }) [0, 1] (fun k => [(6, .t (.int .i64 ((k.1 : Int) - 1))), (5, .t (.int .i64 (plc n k.1 (l.drop k.1))))]) (fun _ => []) (fun k => k.1) ⟨l.length, by omega⟩ (by decide) (fun _ => by rfl) ?_ fun Q1 hQ1 ⟨k, hk⟩ I1 hI1 => ?_
    · have hd : l.drop l.length = [] := List.drop_eq_nil_of_le (by omega)
      simp (decide := true) (maxSteps := 4000000) only [go_sem, Nat.reduceAdd, Nat.reduceSub, Nat.reduceMul, Nat.reduceDiv, Nat.reduceMod, Nat.reduceLT, Nat.reduceLeDiff, Nat.reduceEqDiff, Nat.reduceBEq, Nat.reduceBNe, Nat.reduceGT, Int.reduceAdd, Int.reduceSub, Int.reduceMul, Int.reduceNeg, Int.reduceLT, Int.reduceLE, Int.reduceEq, Int.reduceNe, Int.reduceBEq, Int.reduceBNe, Int.reduceToNat, Int.reduceGT, Int.reduceGE, ↓reduceIte, decide_true, decide_false, eq_self, Nat.mul_one, Nat.zero_mul, Nat.one_mul, Int.le_refl, Nat.le_refl, Int.cast_ofNat_Int, hd, plc]
      first | done | exact ⟨rfl, rfl⟩ | rfl
    · cases k with
      | zero =>
        have hn : ¬ (((0 : Nat) : Int) - 1 ≥ 0) := by omega
        simp (decide := true) (maxSteps := 4000000) only [go_sem, Nat.reduceAdd, Nat.reduceSub, Nat.reduceMul, Nat.reduceDiv, Nat.reduceMod, Nat.reduceLT, Nat.reduceLeDiff, Nat.reduceEqDiff, Nat.reduceBEq, Nat.reduceBNe, Nat.reduceGT, Int.reduceAdd, Int.reduceSub, Int.reduceMul, Int.reduceNeg, Int.reduceLT, Int.reduceLE, Int.reduceEq, Int.reduceNe, Int.reduceBEq, Int.reduceBNe, Int.reduceToNat, Int.reduceGT, Int.reduceGE, ↓reduceIte, decide_true, decide_false, eq_self, Nat.mul_one, Nat.zero_mul, Nat.one_mul, Int.le_refl, Nat.le_refl, Int.cast_ofNat_Int, hn]
        refine hQ1 _ _ ?_
        simp (decide := true) (maxSteps := 4000000) only [go_sem, Nat.reduceAdd, Nat.reduceSub, Nat.reduceMul, Nat.reduceDiv, Nat.reduceMod, Nat.reduceLT, Nat.reduceLeDiff, Nat.reduceEqDiff, Nat.reduceBEq, Nat.reduceBNe, Nat.reduceGT, Int.reduceAdd, Int.reduceSub, Int.reduceMul, Int.reduceNeg, Int.reduceLT, Int.reduceLE, Int.reduceEq, Int.reduceNe, Int.reduceBEq, Int.reduceBNe, Int.reduceToNat, Int.reduceGT, Int.reduceGE, ↓reduceIte, decide_true, decide_false, eq_self, Nat.mul_one, Nat.zero_mul, Nat.one_mul, Int.le_refl, Nat.le_refl, Int.cast_ofNat_Int, List.drop_zero]
      | succ k =>
        have hn : (((k + 1 : Nat) : Int) - 1 ≥ 0) := by omega
        have hkk : ((k + 1 : Nat) : Int) - 1 = (k : Int) := by omega
        have hn2 : (k : Int) ≥ 0 := by omega
        have hlt : (k : Int) < l.length := by omega
        obtain ⟨x, hx⟩ := get_lt hlt
        have d1 := flat_at ic (n := 1) (fun _ => rfl) hx
        rw [Nat.mul_one] at d1
        have hc1 : IntKind.i64.wrap ((k : Int) - 1) = (k : Int) - 1 := wrap_in (by omega) (by omega)
        have hdk : l.drop k = x :: l.drop (k + 1) := by rw [List.drop_eq_getElem_cons (by omega)]; rw [List.getElem?_eq_getElem (by omega)] at hx; cases hx; rfl
        have hst : plc n k (l.drop k) = if x = n then (k : Int) else plc n (k + 1) (l.drop (k + 1)) := by rw [hdk]; rfl
        by_cases hxn : x = n
        · rw [if_pos hxn] at hst
          have hb : (x == n) = true := beq_int_t hxn
          simp (decide := true) (maxSteps := 4000000) only [go_sem, Nat.reduceAdd, Nat.reduceSub, Nat.reduceMul, Nat.reduceDiv, Nat.reduceMod, Nat.reduceLT, Nat.reduceLeDiff, Nat.reduceEqDiff, Nat.reduceBEq, Nat.reduceBNe, Nat.reduceGT, Int.reduceAdd, Int.reduceSub, Int.reduceMul, Int.reduceNeg, Int.reduceLT, Int.reduceLE, Int.reduceEq, Int.reduceNe, Int.reduceBEq, Int.reduceBNe, Int.reduceToNat, Int.reduceGT, Int.reduceGE, ↓reduceIte, decide_true, decide_false, eq_self, Nat.mul_one, Nat.zero_mul, Nat.one_mul, Int.le_refl, Nat.le_refl, Int.cast_ofNat_Int, hkk, hn2, hlt, d1, ic, hb, Int.toNat_natCast]
          refine hI1 _ ⟨k, by omega⟩ (by simp only; omega) ?_
          simp (decide := true) (maxSteps := 4000000) only [go_sem, Nat.reduceAdd, Nat.reduceSub, Nat.reduceMul, Nat.reduceDiv, Nat.reduceMod, Nat.reduceLT, Nat.reduceLeDiff, Nat.reduceEqDiff, Nat.reduceBEq, Nat.reduceBNe, Nat.reduceGT, Int.reduceAdd, Int.reduceSub, Int.reduceMul, Int.reduceNeg, Int.reduceLT, Int.reduceLE, Int.reduceEq, Int.reduceNe, Int.reduceBEq, Int.reduceBNe, Int.reduceToNat, Int.reduceGT, Int.reduceGE, ↓reduceIte, decide_true, decide_false, eq_self, Nat.mul_one, Nat.zero_mul, Nat.one_mul, Int.le_refl, Nat.le_refl, Int.cast_ofNat_Int, hc1, hst]
        · rw [if_neg hxn] at hst
          have hb : (x == n) = false := beq_int_f hxn
          simp (decide := true) (maxSteps := 4000000) only [go_sem, Nat.reduceAdd, Nat.reduceSub, Nat.reduceMul, Nat.reduceDiv, Nat.reduceMod, Nat.reduceLT, Nat.reduceLeDiff, Nat.reduceEqDiff, Nat.reduceBEq, Nat.reduceBNe, Nat.reduceGT, Int.reduceAdd, Int.reduceSub, Int.reduceMul, Int.reduceNeg, Int.reduceLT, Int.reduceLE, Int.reduceEq, Int.reduceNe, Int.reduceBEq, Int.reduceBNe, Int.reduceToNat, Int.reduceGT, Int.reduceGE, ↓reduceIte, decide_true, decide_false, eq_self, Nat.mul_one, Nat.zero_mul, Nat.one_mul, Int.le_refl, Nat.le_refl, Int.cast_ofNat_Int, hkk, hn2, hlt, d1, ic, hb, Int.toNat_natCast]
          refine hI1 _ ⟨k, by omega⟩ (by simp only; omega) ?_
          simp (decide := true) (maxSteps := 4000000) only [go_sem, Nat.reduceAdd, Nat.reduceSub, Nat.reduceMul, Nat.reduceDiv, Nat.reduceMod, Nat.reduceLT, Nat.reduceLeDiff, Nat.reduceEqDiff, Nat.reduceBEq, Nat.reduceBNe, Nat.reduceGT, Int.reduceAdd, Int.reduceSub, Int.reduceMul, Int.reduceNeg, Int.reduceLT, Int.reduceLE, Int.reduceEq, Int.reduceNe, Int.reduceBEq, Int.reduceBNe, Int.reduceToNat, Int.reduceGT, Int.reduceGE, ↓reduceIte, decide_true, decide_false, eq_self, Nat.mul_one, Nat.zero_mul, Nat.one_mul, Int.le_refl, Nat.le_refl, Int.cast_ofNat_Int, hc1, hst]
noncomputable def gPlace : List TV → Option TV
  | [s, .int .i64 n] => match rowL unI s with
    | some l => if l.length ≤ 9223372036854775806 then some (.int .i64 (plc n 0 l)) else none
    | none => none
  | _ => none
theorem gPlace_ok : ∀ xs r, gPlace xs = some r → PCalls Try.prog 47 xs r := by
  intro xs r h
  unfold gPlace at h
  split at h
  · split at h
    · rename_i l hl
      split at h
      · rename_i hc; cases h
        exact Place_c (rowL_some (un := unI) rfl (@unI_some) hl) hc _
      · cases h
    · cases h
  · cases h
attribute [go_sem] gPlace
noncomputable def spQ1 : Pm.Spec := spN1.one 47 gPlace
@[go_sem] theorem spQ1_p (f : FuncId) (xs : List TV) : spQ1.p f xs = Pm.Spec.p (spN1.one 47 gPlace) f xs := rfl
@[go_sem] theorem spQ1_h (f : FuncId) (ps : List PV) (hl : List PO) : spQ1.h f ps hl = Pm.Spec.h (spN1.one 47 gPlace) f ps hl := rfl
@[go_sem] theorem spQ1_fz (f : FuncId) : spQ1.fz f = Pm.Spec.fz (spN1.one 47 gPlace) f := rfl
@[go_sem] theorem spQ1_fr (f : FuncId) : spQ1.fr f = Pm.Spec.fr (spN1.one 47 gPlace) f := rfl
@[go_sem] theorem spQ1_mu (t : TypeId) : spQ1.mu t = Pm.Spec.mu (spN1.one 47 gPlace) t := rfl
theorem spQ1_ok : SpecOk Try.prog spQ1 := Spec.one_ok gPlace_ok spN1_ok
theorem GlassAtOnce_c {B : List Blank} {T : List Span} {sB sT : TV} (hB : IsRow Blank.cs sB B) (hT : IsRow Span.cs sT T) (hlB : B.length ≤ 5864062014806) (hlT : T.length ≤ 9000000000000) (w : Want) {bits : List Int} {sb : TV} (hb : IsRow ic sb bits) (hlb : bits.length ≤ 9223372036854775806) : PCalls Try.prog 12 [.agg [sB, sT], w.t, sb] (.bool true) := by
  have rB := rowB_is hB
  have rT := rowT_is hT
  have rI := rowI_is hb
  unfold rowL at rB rT rI
  have u0 : unI [] = some [] := rfl
  have fl0 : fl [] = [] := rfl
  have in0 : ints [] = [] := rfl
  rw [u0] at rI
  refine pcalls_by Try.mixes spQ1_ok (fn := Try.f12) Try.func12 rfl (by kernel_rfl) (by show 3 ≤ _; decide) ?_
  rcases (Bool.eq_false_or_eq_true (stockOk B T)).symm with hs | hs
  · have mp : mostP B T w = ([], 40) := by unfold mostP; rw [if_pos hs]
    have er : rowJ [] = .nilSl := rfl
    rcases hB with ⟨rfl, rfl⟩ | ⟨fB, rfl⟩ <;> rcases hT with ⟨rfl, rfl⟩ | ⟨fT, rfl⟩ <;> simp (decide := true) (maxSteps := 4000000) only [go_sem, Nat.reduceAdd, Nat.reduceSub, Nat.reduceMul, Nat.reduceDiv, Nat.reduceMod, Nat.reduceLT, Nat.reduceLeDiff, Nat.reduceEqDiff, Nat.reduceBEq, Nat.reduceBNe, Nat.reduceGT, Int.reduceAdd, Int.reduceSub, Int.reduceMul, Int.reduceNeg, Int.reduceLT, Int.reduceLE, Int.reduceEq, Int.reduceNe, Int.reduceBEq, Int.reduceBNe, Int.reduceToNat, Int.reduceGT, Int.reduceGE, ↓reduceIte, decide_true, decide_false, eq_self, Nat.mul_one, Nat.zero_mul, Nat.one_mul, Int.le_refl, Nat.le_refl, Int.cast_ofNat_Int, Try.f12, Want.t, rB, rT, hlB, hlT, mp, er, unBlanks, unSpans, List.length_nil]
  · have hs' := stockOk_iff.1 hs
    obtain ⟨fB, rfl⟩ := hB.ne (by omega)
    obtain ⟨fT, rfl⟩ := hT.ne (by omega)
    have iB : inB (B.length : Int) 1 8 = true := inB_iff.2 (by omega)
    have iT : inB (T.length : Int) 1 6 = true := inB_iff.2 (by omega)
    rcases (Bool.eq_false_or_eq_true (wantOk w)).symm with hw | hw
    · have mp : mostP B T w = ([], 43) := by unfold mostP; rw [if_neg (by rw [hs]; decide), if_pos hw]
      have er : rowJ [] = .nilSl := rfl
      simp (decide := true) (maxSteps := 4000000) only [go_sem, Nat.reduceAdd, Nat.reduceSub, Nat.reduceMul, Nat.reduceDiv, Nat.reduceMod, Nat.reduceLT, Nat.reduceLeDiff, Nat.reduceEqDiff, Nat.reduceBEq, Nat.reduceBNe, Nat.reduceGT, Int.reduceAdd, Int.reduceSub, Int.reduceMul, Int.reduceNeg, Int.reduceLT, Int.reduceLE, Int.reduceEq, Int.reduceNe, Int.reduceBEq, Int.reduceBNe, Int.reduceToNat, Int.reduceGT, Int.reduceGE, ↓reduceIte, decide_true, decide_false, eq_self, Nat.mul_one, Nat.zero_mul, Nat.one_mul, Int.le_refl, Nat.le_refl, Int.cast_ofNat_Int, Try.f12, Want.t, rB, rT, hlB, hlT, mp, er, iB, iT]
    · obtain ⟨l, mp, hv, hl8, hmax⟩ := most_says hs hw
      have gs : ∀ o, goodE B T w o = if goodO B T w o = true then (true, 0) else (false, (goodE B T w o).2) := by
        intro o
        unfold goodE askedG goodO
        rw [hs, hw]
        cases obOk B.length T.length o <;> cases goodB (spansP B T o) w <;> simp
      have wl : IntKind.i64.wrap ((B.length : Int) - 1) = (B.length : Int) - 1 := wrap_in (by omega) (by omega)
      have hre : ∃ sl, rowJ l = sl ∧ IsRow Ob.cs sl l := ⟨_, rfl, rowJ_row l⟩
      obtain ⟨sl, hsl, hrow⟩ := hre
      -- behind the first loop
      simp (decide := true) (maxSteps := 4000000) only [go_sem, Nat.reduceAdd, Nat.reduceSub, Nat.reduceMul, Nat.reduceDiv, Nat.reduceMod, Nat.reduceLT, Nat.reduceLeDiff, Nat.reduceEqDiff, Nat.reduceBEq, Nat.reduceBNe, Nat.reduceGT, Int.reduceAdd, Int.reduceSub, Int.reduceMul, Int.reduceNeg, Int.reduceLT, Int.reduceLE, Int.reduceEq, Int.reduceNe, Int.reduceBEq, Int.reduceBNe, Int.reduceToNat, Int.reduceGT, Int.reduceGE, ↓reduceIte, decide_true, decide_false, eq_self, Nat.mul_one, Nat.zero_mul, Nat.one_mul, Int.le_refl, Nat.le_refl, Int.cast_ofNat_Int, Try.f12, Want.t, rB, rT, hlB, hlT, mp, hsl, iB, iT]
      refine pwpC_loopU (A := { k : Nat // k ≤ l.length }) [2, 3, 4, 7] (fun k => [(10, .t (.int .i64 k.1)), (9, .own (ints (fl (l.take k.1))) (2 * k.1) 2)]) (fun k => [(2, .tok (2 * k.1) 3)]) (fun k => l.length - k.1) ⟨0, by omega⟩ (by decide) (fun _ => by rfl) ?_ fun Q1 hQ1 ⟨k, hk⟩ I1 hI1 => ?_
      · simp (decide := true) (maxSteps := 4000000) only [go_sem, Nat.reduceAdd, Nat.reduceSub, Nat.reduceMul, Nat.reduceDiv, Nat.reduceMod, Nat.reduceLT, Nat.reduceLeDiff, Nat.reduceEqDiff, Nat.reduceBEq, Nat.reduceBNe, Nat.reduceGT, Int.reduceAdd, Int.reduceSub, Int.reduceMul, Int.reduceNeg, Int.reduceLT, Int.reduceLE, Int.reduceEq, Int.reduceNe, Int.reduceBEq, Int.reduceBNe, Int.reduceToNat, Int.reduceGT, Int.reduceGE, ↓reduceIte, decide_true, decide_false, eq_self, Nat.mul_one, Nat.zero_mul, Nat.one_mul, Int.le_refl, Nat.le_refl, Int.cast_ofNat_Int, List.take_zero, fl0, in0]
        first | done | exact ⟨⟨rfl, rfl⟩, rfl⟩ | exact ⟨rfl, rfl⟩ | rfl
      · by_cases hlt : (k : Int) < l.length
        · obtain ⟨f1, e1⟩ := hrow.ne (by omega)
          subst e1
          obtain ⟨o, ho⟩ := get_lt hlt
          have hd := flat_at Ob.cs (n := 5) (fun _ => rfl) ho
          have hc1 : IntKind.i64.wrap (k + 1) = ((k + 1 : Nat) : Int) := by rw [wrap_in (by omega) (by omega)]; omega
          obtain ⟨hgo, q1, q2, q3, q4, q5⟩ := hv.1 o (List.mem_of_getElem? ho)
          rw [free_all] at q4 q5
          have ge := gs o
          rw [if_pos hgo] at ge
          obtain ⟨p1, p2⟩ := fl_free hv ho
          have p1' := plc_out (k := 0) p1
          have p2' := plc_out (k := 0) p2
          have z1 : ¬ ((-1 : Int) ≥ 0) := by omega
          have i1 : inB o.f 0 ((B.length : Int) - 1) = true := inB_iff.2 (by omega)
          have i2 : inB o.s 0 ((B.length : Int) - 1) = true := inB_iff.2 (by omega)
          have hne : (o.f == o.s) = false := beq_int_f q3
          have hfl : (fl (l.take k)).length = 2 * k := by rw [fl_len, List.length_take]; omega
          have hil : (ints (fl (l.take k))).length = 2 * k := by rw [ints_len, hfl]
          have hr : (2 * k + 2) * 8 ≤ 140737488355328 := by omega
          have hb2 : 2 * k ≤ 9223372036854775806 := by omega
          have hnx : ints (fl (l.take (k + 1))) = ints (fl (l.take k)) ++ [.int .i64 o.f, .int .i64 o.s] := by
            rw [take_snoc ho, fl_snoc]; unfold ints; rw [List.map_append]; rfl
          have h2k : 2 * (k + 1) = 2 * k + 2 := by omega
          cases k with
          | zero =>
            have hlt0 : (0 : Int) < (l.length : Int) := by omega
            have hnx1 : ints (fl (l.take 1)) = [.int .i64 o.f, .int .i64 o.s] := hnx
            simp (decide := true) (maxSteps := 4000000) only [go_sem, Nat.reduceAdd, Nat.reduceSub, Nat.reduceMul, Nat.reduceDiv, Nat.reduceMod, Nat.reduceLT, Nat.reduceLeDiff, Nat.reduceEqDiff, Nat.reduceBEq, Nat.reduceBNe, Nat.reduceGT, Int.reduceAdd, Int.reduceSub, Int.reduceMul, Int.reduceNeg, Int.reduceLT, Int.reduceLE, Int.reduceEq, Int.reduceNe, Int.reduceBEq, Int.reduceBNe, Int.reduceToNat, Int.reduceGT, Int.reduceGE, ↓reduceIte, decide_true, decide_false, eq_self, Nat.mul_one, Nat.zero_mul, Nat.one_mul, Int.le_refl, Nat.le_refl, Int.cast_ofNat_Int, hlt, hlt0, u0, Int.cast_ofNat_Int, hd, Ob.cs, Want.t, rB, rT, hlB, hlT, ge, z1, p1', p2', i1, i2, wl, hne, hfl, hil, hr, hb2, unI_eq, Int.toNat_natCast, List.append_eq, List.take_zero, fl0, in0, plc]
            refine hI1 _ ⟨0 + 1, by omega⟩ (by simp only; omega) ?_
            simp (decide := true) (maxSteps := 4000000) only [go_sem, Nat.reduceAdd, Nat.reduceSub, Nat.reduceMul, Nat.reduceDiv, Nat.reduceMod, Nat.reduceLT, Nat.reduceLeDiff, Nat.reduceEqDiff, Nat.reduceBEq, Nat.reduceBNe, Nat.reduceGT, Int.reduceAdd, Int.reduceSub, Int.reduceMul, Int.reduceNeg, Int.reduceLT, Int.reduceLE, Int.reduceEq, Int.reduceNe, Int.reduceBEq, Int.reduceBNe, Int.reduceToNat, Int.reduceGT, Int.reduceGE, ↓reduceIte, decide_true, decide_false, eq_self, Nat.mul_one, Nat.zero_mul, Nat.one_mul, Int.le_refl, Nat.le_refl, Int.cast_ofNat_Int, hc1, hnx1, h2k]
          | succ k =>
            simp (decide := true) (maxSteps := 4000000) only [go_sem, Nat.reduceAdd, Nat.reduceSub, Nat.reduceMul, Nat.reduceDiv, Nat.reduceMod, Nat.reduceLT, Nat.reduceLeDiff, Nat.reduceEqDiff, Nat.reduceBEq, Nat.reduceBNe, Nat.reduceGT, Int.reduceAdd, Int.reduceSub, Int.reduceMul, Int.reduceNeg, Int.reduceLT, Int.reduceLE, Int.reduceEq, Int.reduceNe, Int.reduceBEq, Int.reduceBNe, Int.reduceToNat, Int.reduceGT, Int.reduceGE, ↓reduceIte, decide_true, decide_false, eq_self, Nat.mul_one, Nat.zero_mul, Nat.one_mul, Int.le_refl, Nat.le_refl, Int.cast_ofNat_Int, hlt, hd, Ob.cs, Want.t, rB, rT, hlB, hlT, ge, z1, p1', p2', i1, i2, wl, hne, hfl, hil, hr, hb2, unI_eq, Int.toNat_natCast, List.append_eq]
            refine hI1 _ ⟨k + 1 + 1, by omega⟩ (by simp only; omega) ?_
            simp (decide := true) (maxSteps := 4000000) only [go_sem, Nat.reduceAdd, Nat.reduceSub, Nat.reduceMul, Nat.reduceDiv, Nat.reduceMod, Nat.reduceLT, Nat.reduceLeDiff, Nat.reduceEqDiff, Nat.reduceBEq, Nat.reduceBNe, Nat.reduceGT, Int.reduceAdd, Int.reduceSub, Int.reduceMul, Int.reduceNeg, Int.reduceLT, Int.reduceLE, Int.reduceEq, Int.reduceNe, Int.reduceBEq, Int.reduceBNe, Int.reduceToNat, Int.reduceGT, Int.reduceGE, ↓reduceIte, decide_true, decide_false, eq_self, Nat.mul_one, Nat.zero_mul, Nat.one_mul, Int.le_refl, Nat.le_refl, Int.cast_ofNat_Int, hc1, hnx, h2k]
        · have hke : k = l.length := by omega
          subst hke
          have hne : ∀ o, goodO B T w o = true → l ≠ [] := by
            intro o ho hl
            have := hmax [o] (ValO_snoc (ValO_nil _ _) ho (by simp [fl]) (by simp [fl]))
            rw [hl] at this
            simp only [List.length_cons, List.length_nil] at this
            omega
          have hi5 : ∀ i : Nat, i ≤ 12 → IntKind.i64.wrap (5 * (i : Int)) = 5 * (i : Int) := fun i h => wrap_in (by omega) (by omega)
          have hn : 0 < (B.length : Int) ∧ (B.length : Int) ≤ 9223372036854775807 := by omega
          have hm : 0 < (T.length : Int) ∧ (T.length : Int) ≤ 9223372036854775807 := by omega
          have hfl : (fl l).length = 2 * l.length := fl_len l
          have hbl : 2 * l.length ≤ 9223372036854775806 := by omega
          rcases Nat.eq_zero_or_pos l.length with h0 | h0
          · have e1 : sl = .nilSl := by rw [← hsl]; unfold rowJ; rw [if_pos h0]
            have l0 : l = [] := List.length_eq_zero_iff.1 h0
            subst e1
            subst l0
            have bp : bestP B T w = (bst0.o, 0, 4) := by
              rcases best_says hs hw with ⟨bp, _⟩ | ⟨b, bp, h1, h2, _⟩
              · exact bp
              · exact absurd rfl (hne b (by unfold goodO; rw [h1, h2]; rfl))
            simp (decide := true) (maxSteps := 4000000) only [go_sem, Nat.reduceAdd, Nat.reduceSub, Nat.reduceMul, Nat.reduceDiv, Nat.reduceMod, Nat.reduceLT, Nat.reduceLeDiff, Nat.reduceEqDiff, Nat.reduceBEq, Nat.reduceBNe, Nat.reduceGT, Int.reduceAdd, Int.reduceSub, Int.reduceMul, Int.reduceNeg, Int.reduceLT, Int.reduceLE, Int.reduceEq, Int.reduceNe, Int.reduceBEq, Int.reduceBNe, Int.reduceToNat, Int.reduceGT, Int.reduceGE, ↓reduceIte, decide_true, decide_false, eq_self, Nat.mul_one, Nat.zero_mul, Nat.one_mul, Int.le_refl, Nat.le_refl, Int.cast_ofNat_Int, hlt, List.length_nil, Int.lt_irrefl]
            refine hQ1 _ _ ?_
            simp (decide := true) (maxSteps := 4000000) only [go_sem, Nat.reduceAdd, Nat.reduceSub, Nat.reduceMul, Nat.reduceDiv, Nat.reduceMod, Nat.reduceLT, Nat.reduceLeDiff, Nat.reduceEqDiff, Nat.reduceBEq, Nat.reduceBNe, Nat.reduceGT, Int.reduceAdd, Int.reduceSub, Int.reduceMul, Int.reduceNeg, Int.reduceLT, Int.reduceLE, Int.reduceEq, Int.reduceNe, Int.reduceBEq, Int.reduceBNe, Int.reduceToNat, Int.reduceGT, Int.reduceGE, ↓reduceIte, decide_true, decide_false, eq_self, Nat.mul_one, Nat.zero_mul, Nat.one_mul, Int.le_refl, Nat.le_refl, Int.cast_ofNat_Int, List.take_nil, fl0, in0]
            refine pwpC_loopU (A := { i : Nat // i ≤ 12 }) [2, 3, 4, 7, 9] (fun i => [(15, .t (.int .i64 i.1)), (14, .t (.int .i64 0)), (13, .own [] 0 3)]) (fun _ => [(3, .tok 0 3)]) (fun i => 12 - i.1) ⟨0, by omega⟩ (by decide) (fun _ => by rfl) ?_ fun Q2 hQ2 ⟨i, hi⟩ I2 hI2 => ?_
            · simp (decide := true) (maxSteps := 4000000) only [go_sem, Nat.reduceAdd, Nat.reduceSub, Nat.reduceMul, Nat.reduceDiv, Nat.reduceMod, Nat.reduceLT, Nat.reduceLeDiff, Nat.reduceEqDiff, Nat.reduceBEq, Nat.reduceBNe, Nat.reduceGT, Int.reduceAdd, Int.reduceSub, Int.reduceMul, Int.reduceNeg, Int.reduceLT, Int.reduceLE, Int.reduceEq, Int.reduceNe, Int.reduceBEq, Int.reduceBNe, Int.reduceToNat, Int.reduceGT, Int.reduceGE, ↓reduceIte, decide_true, decide_false, eq_self, Nat.mul_one, Nat.zero_mul, Nat.one_mul, Int.le_refl, Nat.le_refl, Int.cast_ofNat_Int]
              first | done | exact ⟨⟨rfl, rfl⟩, rfl⟩ | exact ⟨rfl, rfl⟩ | rfl
            · by_cases hlt2 : (i : Int) < 12
              · have hc1 : IntKind.i64.wrap (i + 1) = ((i + 1 : Nat) : Int) := by rw [wrap_in (by omega) (by omega)]; omega
                have w0 := hi5 i hi
                have w1 : IntKind.i64.wrap (5 * (i : Int) + 1) = 5 * (i : Int) + 1 := wrap_in (by omega) (by omega)
                have w2 : IntKind.i64.wrap (5 * (i : Int) + 2) = 5 * (i : Int) + 2 := wrap_in (by omega) (by omega)
                have w3 : IntKind.i64.wrap (5 * (i : Int) + 3) = 5 * (i : Int) + 3 := wrap_in (by omega) (by omega)
                have w4 : IntKind.i64.wrap (5 * (i : Int) + 4) = 5 * (i : Int) + 4 := wrap_in (by omega) (by omega)
                obtain ⟨F, hF⟩ : ∃ F, pickI bits (5 * (i : Int)) % (B.length : Int) = F := ⟨_, rfl⟩
                obtain ⟨S, hS⟩ : ∃ F, pickI bits (5 * (i : Int) + 1) % (B.length : Int) = F := ⟨_, rfl⟩
                obtain ⟨a, ha⟩ : ∃ F, pickI bits (5 * (i : Int) + 2) % (T.length : Int) = F := ⟨_, rfl⟩
                obtain ⟨b, hb'⟩ : ∃ F, pickI bits (5 * (i : Int) + 3) % (T.length : Int) = F := ⟨_, rfl⟩
                obtain ⟨c, hc⟩ : ∃ F, pickI bits (5 * (i : Int) + 4) % (T.length : Int) = F := ⟨_, rfl⟩
                have ge := gs ⟨F, S, a, b, c⟩
                cases hg : goodO B T w ⟨F, S, a, b, c⟩ with
                | false =>
                  rw [hg, if_neg (by decide)] at ge
                  obtain ⟨e, he⟩ : ∃ e, goodE B T w ⟨F, S, a, b, c⟩ = (false, e) := ⟨_, ge⟩
                  simp (decide := true) (maxSteps := 4000000) only [go_sem, Nat.reduceAdd, Nat.reduceSub, Nat.reduceMul, Nat.reduceDiv, Nat.reduceMod, Nat.reduceLT, Nat.reduceLeDiff, Nat.reduceEqDiff, Nat.reduceBEq, Nat.reduceBNe, Nat.reduceGT, Int.reduceAdd, Int.reduceSub, Int.reduceMul, Int.reduceNeg, Int.reduceLT, Int.reduceLE, Int.reduceEq, Int.reduceNe, Int.reduceBEq, Int.reduceBNe, Int.reduceToNat, Int.reduceGT, Int.reduceGE, ↓reduceIte, decide_true, decide_false, eq_self, Nat.mul_one, Nat.zero_mul, Nat.one_mul, Int.le_refl, Nat.le_refl, Int.cast_ofNat_Int, hlt2, w0, w1, w2, w3, w4, rI, u0, rB, rT, hlb, hlB, hlT, hn, hm, hF, hS, ha, hb', hc, he, Want.t, plc, List.length_nil]
                  refine hI2 _ ⟨i + 1, by omega⟩ (by simp only; omega) ?_
                  simp (decide := true) (maxSteps := 4000000) only [go_sem, Nat.reduceAdd, Nat.reduceSub, Nat.reduceMul, Nat.reduceDiv, Nat.reduceMod, Nat.reduceLT, Nat.reduceLeDiff, Nat.reduceEqDiff, Nat.reduceBEq, Nat.reduceBNe, Nat.reduceGT, Int.reduceAdd, Int.reduceSub, Int.reduceMul, Int.reduceNeg, Int.reduceLT, Int.reduceLE, Int.reduceEq, Int.reduceNe, Int.reduceBEq, Int.reduceBNe, Int.reduceToNat, Int.reduceGT, Int.reduceGE, ↓reduceIte, decide_true, decide_false, eq_self, Nat.mul_one, Nat.zero_mul, Nat.one_mul, Int.le_refl, Nat.le_refl, Int.cast_ofNat_Int, hc1]
                | true =>
                  exact absurd rfl (hne _ hg)
              · have hie : i = 12 := by omega
                subst hie
                simp (decide := true) (maxSteps := 4000000) only [go_sem, Nat.reduceAdd, Nat.reduceSub, Nat.reduceMul, Nat.reduceDiv, Nat.reduceMod, Nat.reduceLT, Nat.reduceLeDiff, Nat.reduceEqDiff, Nat.reduceBEq, Nat.reduceBNe, Nat.reduceGT, Int.reduceAdd, Int.reduceSub, Int.reduceMul, Int.reduceNeg, Int.reduceLT, Int.reduceLE, Int.reduceEq, Int.reduceNe, Int.reduceBEq, Int.reduceBNe, Int.reduceToNat, Int.reduceGT, Int.reduceGE, ↓reduceIte, decide_true, decide_false, eq_self, Nat.mul_one, Nat.zero_mul, Nat.one_mul, Int.le_refl, Nat.le_refl, Int.cast_ofNat_Int, hlt2]
                refine hQ2 _ _ ?_
                simp (decide := true) (maxSteps := 4000000) only [go_sem, Nat.reduceAdd, Nat.reduceSub, Nat.reduceMul, Nat.reduceDiv, Nat.reduceMod, Nat.reduceLT, Nat.reduceLeDiff, Nat.reduceEqDiff, Nat.reduceBEq, Nat.reduceBNe, Nat.reduceGT, Int.reduceAdd, Int.reduceSub, Int.reduceMul, Int.reduceNeg, Int.reduceLT, Int.reduceLE, Int.reduceEq, Int.reduceNe, Int.reduceBEq, Int.reduceBNe, Int.reduceToNat, Int.reduceGT, Int.reduceGE, ↓reduceIte, decide_true, decide_false, eq_self, Nat.mul_one, Nat.zero_mul, Nat.one_mul, Int.le_refl, Nat.le_refl, Int.cast_ofNat_Int, rB, rT, hlB, hlT, bp, bst0, Ob.t, Ob.cs, Want.t]
          · have e1 : sl = .sl (l.flatMap Ob.cs) l.length (l.length == 1) := by rw [← hsl]; unfold rowJ; rw [if_neg (by omega)]
            subst e1
            have n9 : ¬ 2 * l.length = 0 := by omega
            obtain ⟨bo, bp⟩ : ∃ b, bestP B T w = (b, worstS (spansP B T b).c, 0) := by
              rcases best_says hs hw with ⟨_, hno⟩ | ⟨b, bp, _⟩
              · obtain ⟨o, ho⟩ := get_lt (l := l) (k := 0) (by omega)
                have := (hv.1 o (List.mem_of_getElem? ho)).1
                unfold goodO at this
                rw [Bool.and_eq_true] at this
                rw [hno o this.1] at this; cases this.2
              · exact ⟨b, bp⟩
            simp (decide := true) (maxSteps := 4000000) only [go_sem, Nat.reduceAdd, Nat.reduceSub, Nat.reduceMul, Nat.reduceDiv, Nat.reduceMod, Nat.reduceLT, Nat.reduceLeDiff, Nat.reduceEqDiff, Nat.reduceBEq, Nat.reduceBNe, Nat.reduceGT, Int.reduceAdd, Int.reduceSub, Int.reduceMul, Int.reduceNeg, Int.reduceLT, Int.reduceLE, Int.reduceEq, Int.reduceNe, Int.reduceBEq, Int.reduceBNe, Int.reduceToNat, Int.reduceGT, Int.reduceGE, ↓reduceIte, decide_true, decide_false, eq_self, Nat.mul_one, Nat.zero_mul, Nat.one_mul, Int.le_refl, Nat.le_refl, Int.cast_ofNat_Int, hlt]
            refine hQ1 _ _ ?_
            simp (decide := true) (maxSteps := 4000000) only [go_sem, Nat.reduceAdd, Nat.reduceSub, Nat.reduceMul, Nat.reduceDiv, Nat.reduceMod, Nat.reduceLT, Nat.reduceLeDiff, Nat.reduceEqDiff, Nat.reduceBEq, Nat.reduceBNe, Nat.reduceGT, Int.reduceAdd, Int.reduceSub, Int.reduceMul, Int.reduceNeg, Int.reduceLT, Int.reduceLE, Int.reduceEq, Int.reduceNe, Int.reduceBEq, Int.reduceBNe, Int.reduceToNat, Int.reduceGT, Int.reduceGE, ↓reduceIte, decide_true, decide_false, eq_self, Nat.mul_one, Nat.zero_mul, Nat.one_mul, Int.le_refl, Nat.le_refl, Int.cast_ofNat_Int, List.take_length]
            refine pwpC_loopU (A := { x : Nat × List Ob // x.1 ≤ 12 ∧ ValO (goodO B T w) (free B.length B.length Tk.none) x.2 ∧ x.2.length ≤ 8 }) [2, 3, 4, 7, 9] (fun x => [(15, .t (.int .i64 x.1.1)), (14, .t (.int .i64 x.1.2.length)), (13, .own (ints (fl x.1.2)) (2 * x.1.2.length) 3)]) (fun x => [(3, .tok (2 * x.1.2.length) 3)]) (fun x => 12 - x.1.1) ⟨(0, []), by omega, ValO_nil _ _, by simp⟩ (by decide) (fun _ => by rfl) ?_ fun Q2 hQ2 ⟨⟨i, L⟩, hi, hL, hL8⟩ I2 hI2 => ?_
            · simp (decide := true) (maxSteps := 4000000) only [go_sem, Nat.reduceAdd, Nat.reduceSub, Nat.reduceMul, Nat.reduceDiv, Nat.reduceMod, Nat.reduceLT, Nat.reduceLeDiff, Nat.reduceEqDiff, Nat.reduceBEq, Nat.reduceBNe, Nat.reduceGT, Int.reduceAdd, Int.reduceSub, Int.reduceMul, Int.reduceNeg, Int.reduceLT, Int.reduceLE, Int.reduceEq, Int.reduceNe, Int.reduceBEq, Int.reduceBNe, Int.reduceToNat, Int.reduceGT, Int.reduceGE, ↓reduceIte, decide_true, decide_false, eq_self, Nat.mul_one, Nat.zero_mul, Nat.one_mul, Int.le_refl, Nat.le_refl, Int.cast_ofNat_Int, fl0, in0, List.length_nil]
              first | done | exact ⟨⟨rfl, rfl⟩, rfl⟩ | exact ⟨rfl, rfl⟩ | rfl
            · simp only at hi hL hL8
              by_cases hlt2 : (i : Int) < 12
              · have hflL : (fl L).length = 2 * L.length := fl_len L
                have hilL : (ints (fl L)).length = 2 * L.length := by rw [ints_len, hflL]
                have hbL : 2 * L.length ≤ 9223372036854775806 := by omega
                have hrL : (2 * L.length + 2) * 8 ≤ 140737488355328 := by omega
                have hc1 : IntKind.i64.wrap (i + 1) = ((i + 1 : Nat) : Int) := by rw [wrap_in (by omega) (by omega)]; omega
                have w0 := hi5 i hi
                have w1 : IntKind.i64.wrap (5 * (i : Int) + 1) = 5 * (i : Int) + 1 := wrap_in (by omega) (by omega)
                have w2 : IntKind.i64.wrap (5 * (i : Int) + 2) = 5 * (i : Int) + 2 := wrap_in (by omega) (by omega)
                have w3 : IntKind.i64.wrap (5 * (i : Int) + 3) = 5 * (i : Int) + 3 := wrap_in (by omega) (by omega)
                have w4 : IntKind.i64.wrap (5 * (i : Int) + 4) = 5 * (i : Int) + 4 := wrap_in (by omega) (by omega)
                obtain ⟨F, hF⟩ : ∃ F, pickI bits (5 * (i : Int)) % (B.length : Int) = F := ⟨_, rfl⟩
                obtain ⟨S, hS⟩ : ∃ F, pickI bits (5 * (i : Int) + 1) % (B.length : Int) = F := ⟨_, rfl⟩
                obtain ⟨a, ha⟩ : ∃ F, pickI bits (5 * (i : Int) + 2) % (T.length : Int) = F := ⟨_, rfl⟩
                obtain ⟨b, hb'⟩ : ∃ F, pickI bits (5 * (i : Int) + 3) % (T.length : Int) = F := ⟨_, rfl⟩
                obtain ⟨c, hc⟩ : ∃ F, pickI bits (5 * (i : Int) + 4) % (T.length : Int) = F := ⟨_, rfl⟩
                have ge := gs ⟨F, S, a, b, c⟩
                cases hg : goodO B T w ⟨F, S, a, b, c⟩ with
                | false =>
                  rw [hg, if_neg (by decide)] at ge
                  obtain ⟨e, he⟩ : ∃ e, goodE B T w ⟨F, S, a, b, c⟩ = (false, e) := ⟨_, ge⟩
                  cases hL0 : decide (2 * L.length = 0) with
                  | true =>
                    have n8 : 2 * L.length = 0 := by simpa using hL0
                    have LL : L = [] := List.length_eq_zero_iff.1 (by omega)
                    subst LL
                    simp (decide := true) (maxSteps := 4000000) only [go_sem, Nat.reduceAdd, Nat.reduceSub, Nat.reduceMul, Nat.reduceDiv, Nat.reduceMod, Nat.reduceLT, Nat.reduceLeDiff, Nat.reduceEqDiff, Nat.reduceBEq, Nat.reduceBNe, Nat.reduceGT, Int.reduceAdd, Int.reduceSub, Int.reduceMul, Int.reduceNeg, Int.reduceLT, Int.reduceLE, Int.reduceEq, Int.reduceNe, Int.reduceBEq, Int.reduceBNe, Int.reduceToNat, Int.reduceGT, Int.reduceGE, ↓reduceIte, decide_true, decide_false, eq_self, Nat.mul_one, Nat.zero_mul, Nat.one_mul, Int.le_refl, Nat.le_refl, Int.cast_ofNat_Int, hlt2, w0, w1, w2, w3, w4, rI, u0, rB, rT, hlb, hlB, hlT, hn, hm, hF, hS, ha, hb', hc, he, Want.t, n9, unI_eq, hbl, hfl, fl0, in0, List.length_nil]
                    refine hI2 _ ⟨(i + 1, []), by simp only; omega, hL, hL8⟩ (by simp only; omega) ?_
                    simp (decide := true) (maxSteps := 4000000) only [go_sem, Nat.reduceAdd, Nat.reduceSub, Nat.reduceMul, Nat.reduceDiv, Nat.reduceMod, Nat.reduceLT, Nat.reduceLeDiff, Nat.reduceEqDiff, Nat.reduceBEq, Nat.reduceBNe, Nat.reduceGT, Int.reduceAdd, Int.reduceSub, Int.reduceMul, Int.reduceNeg, Int.reduceLT, Int.reduceLE, Int.reduceEq, Int.reduceNe, Int.reduceBEq, Int.reduceBNe, Int.reduceToNat, Int.reduceGT, Int.reduceGE, ↓reduceIte, decide_true, decide_false, eq_self, Nat.mul_one, Nat.zero_mul, Nat.one_mul, Int.le_refl, Nat.le_refl, Int.cast_ofNat_Int, hc1, fl0, in0, List.length_nil]
                  | false =>
                    have n8 : ¬ 2 * L.length = 0 := by simpa using hL0
                    simp (decide := true) (maxSteps := 4000000) only [go_sem, Nat.reduceAdd, Nat.reduceSub, Nat.reduceMul, Nat.reduceDiv, Nat.reduceMod, Nat.reduceLT, Nat.reduceLeDiff, Nat.reduceEqDiff, Nat.reduceBEq, Nat.reduceBNe, Nat.reduceGT, Int.reduceAdd, Int.reduceSub, Int.reduceMul, Int.reduceNeg, Int.reduceLT, Int.reduceLE, Int.reduceEq, Int.reduceNe, Int.reduceBEq, Int.reduceBNe, Int.reduceToNat, Int.reduceGT, Int.reduceGE, ↓reduceIte, decide_true, decide_false, eq_self, Nat.mul_one, Nat.zero_mul, Nat.one_mul, Int.le_refl, Nat.le_refl, Int.cast_ofNat_Int, hlt2, w0, w1, w2, w3, w4, rI, u0, rB, rT, hlb, hlB, hlT, hn, hm, hF, hS, ha, hb', hc, he, Want.t, n9, n8, unI_eq, hbl, hfl, hbL, hflL]
                    refine hI2 _ ⟨(i + 1, L), by simp only; omega, hL, hL8⟩ (by simp only; omega) ?_
                    simp (decide := true) (maxSteps := 4000000) only [go_sem, Nat.reduceAdd, Nat.reduceSub, Nat.reduceMul, Nat.reduceDiv, Nat.reduceMod, Nat.reduceLT, Nat.reduceLeDiff, Nat.reduceEqDiff, Nat.reduceBEq, Nat.reduceBNe, Nat.reduceGT, Int.reduceAdd, Int.reduceSub, Int.reduceMul, Int.reduceNeg, Int.reduceLT, Int.reduceLE, Int.reduceEq, Int.reduceNe, Int.reduceBEq, Int.reduceBNe, Int.reduceToNat, Int.reduceGT, Int.reduceGE, ↓reduceIte, decide_true, decide_false, eq_self, Nat.mul_one, Nat.zero_mul, Nat.one_mul, Int.le_refl, Nat.le_refl, Int.cast_ofNat_Int, hc1]
                | true =>
                  rw [hg, if_pos rfl] at ge
                  have hno : ¬ (F ∉ fl l ∧ S ∉ fl l) := by
                    rintro ⟨h1, h2⟩
                    have := hmax _ (ValO_snoc hv hg h1 h2)
                    rw [List.length_append] at this
                    simp only [List.length_cons, List.length_nil] at this
                    omega
                  have z1 : (-1 : Int) < 0 := by omega
                  have fin : ∀ X : List Ob, ValO (goodO B T w) (free B.length B.length Tk.none) X → X.length ≤ 8 := fun X hX => by have := hmax X hX; omega
                  have hapL : ints (fl (L ++ [⟨F, S, a, b, c⟩])) = ints (fl L) ++ [.int .i64 F, .int .i64 S] := by rw [fl_snoc]; unfold ints; rw [List.map_append]; rfl
                  have wm : IntKind.i64.wrap ((L.length : Int) + 1) = ((L.length + 1 : Nat) : Int) := by rw [wrap_in (by omega) (by omega)]; omega
                  have hl2 : (L ++ [(⟨F, S, a, b, c⟩ : Ob)]).length = L.length + 1 := by simp
                  have h22 : 2 * (L.length + 1) = 2 * L.length + 2 := by omega
                  have hpl : (¬ plc F 0 (fl l) < 0 ∧ True) ∨ (plc F 0 (fl l) = -1 ∧ ¬ plc S 0 (fl l) < 0) := by
                    by_cases a1 : F ∈ fl l
                    · left; have := plc_in (k := 0) a1; exact ⟨by omega, trivial⟩
                    · right
                      refine ⟨plc_out a1, ?_⟩
                      by_cases a2 : S ∈ fl l
                      · have := plc_in (k := 0) a2; omega
                      · exact absurd ⟨a1, a2⟩ hno
                  have hpL : (¬ plc F 0 (fl L) < 0 ∧ True ∧ True ∧ True) ∨ (plc F 0 (fl L) = -1 ∧ ¬ plc S 0 (fl L) < 0 ∧ True ∧ True) ∨ (plc F 0 (fl L) = -1 ∧ plc S 0 (fl L) = -1 ∧ F ∉ fl L ∧ S ∉ fl L) := by
                    by_cases a1 : F ∈ fl L
                    · left; have := plc_in (k := 0) a1; exact ⟨by omega, trivial, trivial, trivial⟩
                    · right
                      by_cases a2 : S ∈ fl L
                      · left; exact ⟨plc_out a1, by have := plc_in (k := 0) a2; omega, trivial, trivial⟩
                      · right; exact ⟨plc_out a1, plc_out a2, a1, a2⟩
                  cases hL0 : decide (2 * L.length = 0) with
                  | true =>
                    have n8 : 2 * L.length = 0 := by simpa using hL0
                    have LL : L = [] := List.length_eq_zero_iff.1 (by omega)
                    subst LL
                    rcases hpl with ⟨p1, p2⟩ | ⟨p1, p2⟩
                    all_goals
                      simp (decide := true) (maxSteps := 4000000) only [go_sem, Nat.reduceAdd, Nat.reduceSub, Nat.reduceMul, Nat.reduceDiv, Nat.reduceMod, Nat.reduceLT, Nat.reduceLeDiff, Nat.reduceEqDiff, Nat.reduceBEq, Nat.reduceBNe, Nat.reduceGT, Int.reduceAdd, Int.reduceSub, Int.reduceMul, Int.reduceNeg, Int.reduceLT, Int.reduceLE, Int.reduceEq, Int.reduceNe, Int.reduceBEq, Int.reduceBNe, Int.reduceToNat, Int.reduceGT, Int.reduceGE, ↓reduceIte, decide_true, decide_false, eq_self, Nat.mul_one, Nat.zero_mul, Nat.one_mul, Int.le_refl, Nat.le_refl, Int.cast_ofNat_Int, hlt2, w0, w1, w2, w3, w4, rI, u0, rB, rT, hlb, hlB, hlT, hn, hm, hF, hS, ha, hb', hc, ge, Want.t, n9, unI_eq, hbl, hfl, p1, p2, z1, fl0, in0, List.length_nil, plc]
                      refine hI2 _ ⟨(i + 1, [] ++ [⟨F, S, a, b, c⟩]), by simp only; omega, ValO_snoc hL hg (by simp [fl]) (by simp [fl]), by simp⟩ (by simp only; omega) ?_
                      simp (decide := true) (maxSteps := 4000000) only [go_sem, Nat.reduceAdd, Nat.reduceSub, Nat.reduceMul, Nat.reduceDiv, Nat.reduceMod, Nat.reduceLT, Nat.reduceLeDiff, Nat.reduceEqDiff, Nat.reduceBEq, Nat.reduceBNe, Nat.reduceGT, Int.reduceAdd, Int.reduceSub, Int.reduceMul, Int.reduceNeg, Int.reduceLT, Int.reduceLE, Int.reduceEq, Int.reduceNe, Int.reduceBEq, Int.reduceBNe, Int.reduceToNat, Int.reduceGT, Int.reduceGE, ↓reduceIte, decide_true, decide_false, eq_self, Nat.mul_one, Nat.zero_mul, Nat.one_mul, Int.le_refl, Nat.le_refl, Int.cast_ofNat_Int, hc1, fl, List.nil_append, List.flatMap_cons, List.flatMap_nil, ints, List.map_nil, List.map_cons, List.length_cons, List.length_nil]
                  | false =>
                    have n8 : ¬ 2 * L.length = 0 := by simpa using hL0
                    rcases hpl with ⟨p1, p2⟩ | ⟨p1, p2⟩ <;> rcases hpL with ⟨r1, r2, r3, r4⟩ | ⟨r1, r2, r3, r4⟩ | ⟨r1, r2, r3, r4⟩
                    all_goals
                      simp (decide := true) (maxSteps := 4000000) only [go_sem, Nat.reduceAdd, Nat.reduceSub, Nat.reduceMul, Nat.reduceDiv, Nat.reduceMod, Nat.reduceLT, Nat.reduceLeDiff, Nat.reduceEqDiff, Nat.reduceBEq, Nat.reduceBNe, Nat.reduceGT, Int.reduceAdd, Int.reduceSub, Int.reduceMul, Int.reduceNeg, Int.reduceLT, Int.reduceLE, Int.reduceEq, Int.reduceNe, Int.reduceBEq, Int.reduceBNe, Int.reduceToNat, Int.reduceGT, Int.reduceGE, ↓reduceIte, decide_true, decide_false, eq_self, Nat.mul_one, Nat.zero_mul, Nat.one_mul, Int.le_refl, Nat.le_refl, Int.cast_ofNat_Int, hlt2, w0, w1, w2, w3, w4, rI, u0, rB, rT, hlb, hlB, hlT, hn, hm, hF, hS, ha, hb', hc, ge, Want.t, n9, n8, unI_eq, hbl, hfl, hbL, hflL, hilL, hrL, p1, p2, r1, r2, z1, wm]
                      first
                        | (refine hI2 _ ⟨(i + 1, L ++ [⟨F, S, a, b, c⟩]), by simp only; omega, ValO_snoc hL hg r3 r4, fin _ (ValO_snoc hL hg r3 r4)⟩ (by simp only; omega) ?_
                           simp (decide := true) (maxSteps := 4000000) only [go_sem, Nat.reduceAdd, Nat.reduceSub, Nat.reduceMul, Nat.reduceDiv, Nat.reduceMod, Nat.reduceLT, Nat.reduceLeDiff, Nat.reduceEqDiff, Nat.reduceBEq, Nat.reduceBNe, Nat.reduceGT, Int.reduceAdd, Int.reduceSub, Int.reduceMul, Int.reduceNeg, Int.reduceLT, Int.reduceLE, Int.reduceEq, Int.reduceNe, Int.reduceBEq, Int.reduceBNe, Int.reduceToNat, Int.reduceGT, Int.reduceGE, ↓reduceIte, decide_true, decide_false, eq_self, Nat.mul_one, Nat.zero_mul, Nat.one_mul, Int.le_refl, Nat.le_refl, Int.cast_ofNat_Int, hc1, hapL, hl2, h22])
                        | (refine hI2 _ ⟨(i + 1, L), by simp only; omega, hL, hL8⟩ (by simp only; omega) ?_
                           simp (decide := true) (maxSteps := 4000000) only [go_sem, Nat.reduceAdd, Nat.reduceSub, Nat.reduceMul, Nat.reduceDiv, Nat.reduceMod, Nat.reduceLT, Nat.reduceLeDiff, Nat.reduceEqDiff, Nat.reduceBEq, Nat.reduceBNe, Nat.reduceGT, Int.reduceAdd, Int.reduceSub, Int.reduceMul, Int.reduceNeg, Int.reduceLT, Int.reduceLE, Int.reduceEq, Int.reduceNe, Int.reduceBEq, Int.reduceBNe, Int.reduceToNat, Int.reduceGT, Int.reduceGE, ↓reduceIte, decide_true, decide_false, eq_self, Nat.mul_one, Nat.zero_mul, Nat.one_mul, Int.le_refl, Nat.le_refl, Int.cast_ofNat_Int, hc1])
              · have hie : i = 12 := by omega
                subst hie
                have hle : (L.length : Int) ≤ l.length := by have := hmax L hL; omega
                have hgt : (l.length : Int) > 0 := by omega
                simp (decide := true) (maxSteps := 4000000) only [go_sem, Nat.reduceAdd, Nat.reduceSub, Nat.reduceMul, Nat.reduceDiv, Nat.reduceMod, Nat.reduceLT, Nat.reduceLeDiff, Nat.reduceEqDiff, Nat.reduceBEq, Nat.reduceBNe, Nat.reduceGT, Int.reduceAdd, Int.reduceSub, Int.reduceMul, Int.reduceNeg, Int.reduceLT, Int.reduceLE, Int.reduceEq, Int.reduceNe, Int.reduceBEq, Int.reduceBNe, Int.reduceToNat, Int.reduceGT, Int.reduceGE, ↓reduceIte, decide_true, decide_false, eq_self, Nat.mul_one, Nat.zero_mul, Nat.one_mul, Int.le_refl, Nat.le_refl, Int.cast_ofNat_Int, hlt2]
                refine hQ2 _ _ ?_
                simp (decide := true) (maxSteps := 4000000) only [go_sem, Nat.reduceAdd, Nat.reduceSub, Nat.reduceMul, Nat.reduceDiv, Nat.reduceMod, Nat.reduceLT, Nat.reduceLeDiff, Nat.reduceEqDiff, Nat.reduceBEq, Nat.reduceBNe, Nat.reduceGT, Int.reduceAdd, Int.reduceSub, Int.reduceMul, Int.reduceNeg, Int.reduceLT, Int.reduceLE, Int.reduceEq, Int.reduceNe, Int.reduceBEq, Int.reduceBNe, Int.reduceToNat, Int.reduceGT, Int.reduceGE, ↓reduceIte, decide_true, decide_false, eq_self, Nat.mul_one, Nat.zero_mul, Nat.one_mul, Int.le_refl, Nat.le_refl, Int.cast_ofNat_Int, rB, rT, hlB, hlT, bp, Ob.t, Ob.cs, Want.t, hle, hgt]
end Go.Proofs.Ytcjcnmpecmbdeaa
