/- What the claim leans on, text 7. -/
import Derived.Test.YtcjcnmpecmbdeaaC6
set_option linter.unusedSimpArgs false
set_option linter.unusedVariables false

/- Part Gna. -/
namespace Go.Oc
open Go Go.Pm
def updI (g : Int → Int) (t v : Int) : Int → Int := fun i => if i = t then v else g i
theorem updI_same (g : Int → Int) (t v : Int) : updI g t v t = v := by unfold updI; rw [if_pos rfl]
/-- What both lenses do is affine in the curvature of a tool. -/
theorem pw_upd (n1 n2 : Int) (o : Ob) (g : Int → Int) (t : Int) : ∃ A : Int, ∀ v, pw n1 n2 (updI g t v o.a) (updI g t v o.b) (updI g t v o.c) - pw n1 n2 (g o.a) (g o.b) (g o.c) = A * v - A * g t := by
  refine ⟨(if o.a = t then n1 else 0) + (if o.b = t then n2 - n1 else 0) - (if o.c = t then n2 else 0), fun v => ?_⟩
  unfold pw updI
  by_cases h1 : o.a = t <;> by_cases h2 : o.b = t <;> by_cases h3 : o.c = t <;> simp only [h1, h2, h3, if_true, if_false, Int.mul_sub, Int.sub_mul, Int.add_mul, Int.zero_mul] <;> omega
theorem pw_low (n1 n2 : Int) {T : List Span} (o : Ob) (g : Int → Int) (t : Int) (h : (toolAt T t).lo ≤ g t ∧ g t ≤ (toolAt T t).hi) :
    (∃ b, pw n1 n2 (updI g t (endS (toolAt T t) b) o.a) (updI g t (endS (toolAt T t) b) o.b) (updI g t (endS (toolAt T t) b) o.c) ≤ pw n1 n2 (g o.a) (g o.b) (g o.c)) ∧
    ∃ b, pw n1 n2 (g o.a) (g o.b) (g o.c) ≤ pw n1 n2 (updI g t (endS (toolAt T t) b) o.a) (updI g t (endS (toolAt T t) b) o.b) (updI g t (endS (toolAt T t) b) o.c) := by
  obtain ⟨A, hA⟩ := pw_upd n1 n2 o g t
  obtain ⟨⟨b, hb⟩, c, hc⟩ := affine_ends (A := A) h
  exact ⟨⟨b, by have := hA (endS (toolAt T t) b); omega⟩, c, by have := hA (endS (toolAt T t) c); omega⟩
theorem pw_n1 {s : Span} {n1 n2 x y z : Int} (h : s.lo ≤ n1 ∧ n1 ≤ s.hi) : (∃ b, pw (endS s b) n2 x y z ≤ pw n1 n2 x y z) ∧ ∃ b, pw n1 n2 x y z ≤ pw (endS s b) n2 x y z := by
  obtain ⟨⟨b, hb⟩, c, hc⟩ := affine_ends (A := x - y) h
  unfold pw
  rw [Int.mul_comm n1]
  refine ⟨⟨b, ?_⟩, c, ?_⟩
  · rw [Int.mul_comm (endS s b)]; omega
  · rw [Int.mul_comm (endS s c)]; omega
theorem pw_n2 {s : Span} {n1 n2 x y z : Int} (h : s.lo ≤ n2 ∧ n2 ≤ s.hi) : (∃ b, pw n1 (endS s b) x y z ≤ pw n1 n2 x y z) ∧ ∃ b, pw n1 n2 x y z ≤ pw n1 (endS s b) x y z := by
  obtain ⟨⟨b, hb⟩, c, hc⟩ := affine_ends (A := y - z) h
  unfold pw
  rw [Int.mul_comm n2]
  refine ⟨⟨b, ?_⟩, c, ?_⟩
  · rw [Int.mul_comm (endS s b)]; omega
  · rw [Int.mul_comm (endS s c)]; omega
/-- The curvatures of three tools at ends, one after the other. -/
theorem ends3 (T : List Span) (o : Ob) (g : Int → Int) (b1 b2 b3 : Bool) (s1 s2 : Span) (hi hj : Bool) :
    pw (endS s1 hi) (endS s2 hj) (updI (updI (updI g o.a (endS (toolAt T o.a) b1)) o.b (endS (toolAt T o.b) b2)) o.c (endS (toolAt T o.c) b3) o.a) (updI (updI (updI g o.a (endS (toolAt T o.a) b1)) o.b (endS (toolAt T o.b) b2)) o.c (endS (toolAt T o.c) b3) o.b) (updI (updI (updI g o.a (endS (toolAt T o.a) b1)) o.b (endS (toolAt T o.b) b2)) o.c (endS (toolAt T o.c) b3) o.c) =
    endV s1 s2 T o hi hj (fun t => if t = o.c then b3 else if t = o.b then b2 else b1) := by
  unfold endV updI
  by_cases h1 : o.a = o.c <;> by_cases h2 : o.b = o.c <;> by_cases h3 : o.a = o.b <;> simp only [h1, h2, h3, if_true, if_false]
theorem pw_between {s1 s2 : Span} {T : List Span} {o : Ob} {n1 n2 : Int} {g : Int → Int} (h1 : s1.lo ≤ n1 ∧ n1 ≤ s1.hi) (h2 : s2.lo ≤ n2 ∧ n2 ≤ s2.hi)
    (ha : (toolAt T o.a).lo ≤ g o.a ∧ g o.a ≤ (toolAt T o.a).hi) (hb : (toolAt T o.b).lo ≤ g o.b ∧ g o.b ≤ (toolAt T o.b).hi) (hc : (toolAt T o.c).lo ≤ g o.c ∧ g o.c ≤ (toolAt T o.c).hi) :
    (minmax (corners s1 s2 (toolAt T o.a) (toolAt T o.b) (toolAt T o.c) o 32)).lo ≤ pw n1 n2 (g o.a) (g o.b) (g o.c) ∧ pw n1 n2 (g o.a) (g o.b) (g o.c) ≤ (minmax (corners s1 s2 (toolAt T o.a) (toolAt T o.b) (toolAt T o.c) o 32)).hi := by
  have hu : ∀ (g : Int → Int) (t u : Int) (b : Bool), ((toolAt T u).lo ≤ g u ∧ g u ≤ (toolAt T u).hi) → ((toolAt T t).lo ≤ g t ∧ g t ≤ (toolAt T t).hi) → (toolAt T u).lo ≤ updI g t (endS (toolAt T t) b) u ∧ updI g t (endS (toolAt T t) b) u ≤ (toolAt T u).hi := by
    intro g t u b hu ht
    unfold updI
    split
    · rename_i h; subst h; exact endS_mem (by omega) b
    · exact hu
  constructor
  · obtain ⟨bi, l1⟩ := (pw_n1 (n2 := n2) (x := g o.a) (y := g o.b) (z := g o.c) h1).1
    obtain ⟨bj, l2⟩ := (pw_n2 (n1 := endS s1 bi) (x := g o.a) (y := g o.b) (z := g o.c) h2).1
    obtain ⟨b1, l3⟩ := (pw_low (endS s1 bi) (endS s2 bj) o g o.a ha).1
    have hb' := hu g o.a o.b b1 hb ha
    have hc' := hu g o.a o.c b1 hc ha
    obtain ⟨b2, l4⟩ := (pw_low (endS s1 bi) (endS s2 bj) o _ o.b hb').1
    have hc'' := hu _ o.b o.c b2 hc' hb'
    obtain ⟨b3, l5⟩ := (pw_low (endS s1 bi) (endS s2 bj) o _ o.c hc'').1
    rw [ends3] at l5
    refine Int.le_trans ?_ (Int.le_trans l5 (Int.le_trans l4 (Int.le_trans l3 (Int.le_trans l2 l1))))
    exact (minmax_le ((corner_iff s1 s2 T o _).2 ⟨bi, bj, _, rfl⟩)).1
  · obtain ⟨bi, l1⟩ := (pw_n1 (n2 := n2) (x := g o.a) (y := g o.b) (z := g o.c) h1).2
    obtain ⟨bj, l2⟩ := (pw_n2 (n1 := endS s1 bi) (x := g o.a) (y := g o.b) (z := g o.c) h2).2
    obtain ⟨b1, l3⟩ := (pw_low (endS s1 bi) (endS s2 bj) o g o.a ha).2
    have hb' := hu g o.a o.b b1 hb ha
    have hc' := hu g o.a o.c b1 hc ha
    obtain ⟨b2, l4⟩ := (pw_low (endS s1 bi) (endS s2 bj) o _ o.b hb').2
    have hc'' := hu _ o.b o.c b2 hc' hb'
    obtain ⟨b3, l5⟩ := (pw_low (endS s1 bi) (endS s2 bj) o _ o.c hc'').2
    rw [ends3] at l5
    refine Int.le_trans l1 (Int.le_trans l2 (Int.le_trans l3 (Int.le_trans l4 (Int.le_trans l5 ?_))))
    exact (minmax_le ((corner_iff s1 s2 T o _).2 ⟨bi, bj, _, rfl⟩)).2
/-- What is seen of an objective in a truth lies in its spans. -/
theorem seen_in {B : List Blank} {T : List Span} {o : Ob} (ho : obOk B.length T.length o = true) {ix co cu : List Int} (ht : truthOk B T ix co cu = true) :
    ((spansP B T o).p.lo ≤ pw (nth ix o.f) (nth ix o.s) (nth cu o.a) (nth cu o.b) (nth cu o.c) ∧ pw (nth ix o.f) (nth ix o.s) (nth cu o.a) (nth cu o.b) (nth cu o.c) ≤ (spansP B T o).p.hi) ∧
    (spansP B T o).c.lo ≤ pw (nth co o.f) (nth co o.s) (nth cu o.a) (nth cu o.b) (nth cu o.c) ∧ pw (nth co o.f) (nth co o.s) (nth cu o.a) (nth cu o.b) (nth cu o.c) ≤ (spansP B T o).c.hi := by
  have ho' := obOk_iff.1 ho
  unfold truthOk at ht
  simp only [Bool.and_eq_true] at ht
  have tB : ∀ i : Int, 0 ≤ i → i ≤ (B.length : Int) - 1 → ((blankAt B i).i.lo ≤ nth ix i ∧ nth ix i ≤ (blankAt B i).i.hi) ∧ (blankAt B i).c.lo ≤ nth co i ∧ nth co i ≤ (blankAt B i).c.hi := by
    intro i h0 h1
    obtain ⟨k, rfl⟩ := Int.eq_ofNat_of_zero_le h0
    exact tOkB_at ht.2.1 (by omega)
  have tT : ∀ i : Int, 0 ≤ i → i ≤ (T.length : Int) - 1 → (toolAt T i).lo ≤ nth cu i ∧ nth cu i ≤ (toolAt T i).hi := by
    intro i h0 h1
    obtain ⟨k, rfl⟩ := Int.eq_ofNat_of_zero_le h0
    exact tOkT_at ht.2.2 (by omega)
  have f := tB o.f ho'.1.1 ho'.1.2
  have s := tB o.s ho'.2.1.1 ho'.2.1.2
  have a := tT o.a ho'.2.2.2.1.1 ho'.2.2.2.1.2
  have b := tT o.b ho'.2.2.2.2.1.1 ho'.2.2.2.2.1.2
  have c := tT o.c ho'.2.2.2.2.2.1 ho'.2.2.2.2.2.2
  exact ⟨pw_between f.1 s.1 a b c, pw_between f.2 s.2 a b c⟩

/-- The element of a list that a number chooses. -/
def pickI (l : List Int) (n : Int) : Int := if l.length = 0 then 0 else nth l (n % l.length)
/-- A truth of a stock, as numbers choose it. -/
def chIx (B : List Blank) (bits : List Int) (k : Nat) : List Int := (List.range k).map fun (i : Nat) => chosen (blankAt B i).i.lo (blankAt B i).i.hi (pickI bits (2 * i))
def chCo (B : List Blank) (bits : List Int) (k : Nat) : List Int := (List.range k).map fun (i : Nat) => chosen (blankAt B i).c.lo (blankAt B i).c.hi (pickI bits (2 * i + 1))
def chCu (T : List Span) (bits : List Int) (k : Nat) : List Int := (List.range k).map fun (i : Nat) => chosen (toolAt T i).lo (toolAt T i).hi (pickI bits (i + 5))
theorem chIx_succ (B : List Blank) (bits : List Int) (k : Nat) : chIx B bits (k + 1) = chIx B bits k ++ [chosen (blankAt B k).i.lo (blankAt B k).i.hi (pickI bits (2 * k))] := by unfold chIx; rw [List.range_succ, List.map_append]; rfl
theorem chCo_succ (B : List Blank) (bits : List Int) (k : Nat) : chCo B bits (k + 1) = chCo B bits k ++ [chosen (blankAt B k).c.lo (blankAt B k).c.hi (pickI bits (2 * k + 1))] := by unfold chCo; rw [List.range_succ, List.map_append]; rfl
theorem chCu_succ (T : List Span) (bits : List Int) (k : Nat) : chCu T bits (k + 1) = chCu T bits k ++ [chosen (toolAt T k).lo (toolAt T k).hi (pickI bits (k + 5))] := by unfold chCu; rw [List.range_succ, List.map_append]; rfl
theorem chIx_len (B : List Blank) (bits : List Int) (k : Nat) : (chIx B bits k).length = k := by simp [chIx]
theorem chCo_len (B : List Blank) (bits : List Int) (k : Nat) : (chCo B bits k).length = k := by simp [chCo]
theorem chCu_len (T : List Span) (bits : List Int) (k : Nat) : (chCu T bits k).length = k := by simp [chCu]
theorem nth_mapN {n : Nat} {f : Nat → Int} {i : Nat} (h1 : i < n) : nth ((List.range n).map f) (i : Int) = f i := by
  refine nth_eq ?_
  rw [List.getElem?_map, List.getElem?_range h1]; rfl
theorem chosen_truth {B : List Blank} {T : List Span} (hs : stockOk B T = true) (bits : List Int) : truthOk B T (chIx B bits B.length) (chCo B bits B.length) (chCu T bits T.length) = true := by
  unfold truthOk tOkB tOkT
  rw [chIx_len, chCo_len, chCu_len]
  simp only [beq_self_eq_true, Bool.and_self, Bool.true_and, Bool.and_eq_true, List.all_eq_true, List.mem_range, inB_iff]
  refine ⟨fun i hi => ?_, fun i hi => ?_⟩
  · have := blank_ok hs (i := i) (by omega) (by omega)
    unfold chIx chCo
    rw [nth_mapN hi, nth_mapN hi]
    exact ⟨chosen_mem _ this.1.2.1, chosen_mem _ this.2.1.2.1⟩
  · have := tool_ok hs (i := i) (by omega) (by omega)
    unfold chCu
    rw [nth_mapN hi]
    exact chosen_mem _ this.2.1

/-- An objective that is turned round. -/
def turnO (o : Ob) : Ob := ⟨o.s, o.f, o.c, o.b, o.a⟩
theorem turn_ok {n m : Int} (o : Ob) : obOk n m (turnO o) = obOk n m o := by
  rw [Bool.eq_iff_iff, obOk_iff, obOk_iff]
  unfold turnO
  simp only
  constructor <;> (rintro ⟨a, b, c, d, e, f⟩; exact ⟨b, a, fun h => c h.symm, f, e, d⟩)
theorem pw_turn (n1 n2 x y z : Int) : pw n2 n1 z y x = -pw n1 n2 x y z := by
  unfold pw
  simp only [Int.mul_sub]; omega
theorem corner_turn (s1 s2 : Span) (T : List Span) (o : Ob) : minmax (corners s2 s1 (toolAt T (turnO o).a) (toolAt T (turnO o).b) (toolAt T (turnO o).c) (turnO o) 32) = ⟨-(minmax (corners s1 s2 (toolAt T o.a) (toolAt T o.b) (toolAt T o.c) o 32)).hi, -(minmax (corners s1 s2 (toolAt T o.a) (toolAt T o.b) (toolAt T o.c) o 32)).lo⟩ := by
  have hv : ∀ hi hj g, endV s2 s1 T (turnO o) hj hi g = -endV s1 s2 T o hi hj g := fun hi hj g => pw_turn ..
  have n1 := corners_ne s1 s2 (toolAt T o.a) (toolAt T o.b) (toolAt T o.c) o
  have n2 := corners_ne s2 s1 (toolAt T (turnO o).a) (toolAt T (turnO o).b) (toolAt T (turnO o).c) (turnO o)
  obtain ⟨a1, a2⟩ := minmax_mem n1
  obtain ⟨b1, b2⟩ := minmax_mem n2
  have key1 : ∀ v, v ∈ corners s1 s2 (toolAt T o.a) (toolAt T o.b) (toolAt T o.c) o 32 → -v ∈ corners s2 s1 (toolAt T (turnO o).a) (toolAt T (turnO o).b) (toolAt T (turnO o).c) (turnO o) 32 := by
    intro v h
    obtain ⟨hi, hj, g, rfl⟩ := (corner_iff ..).1 h
    exact (corner_iff ..).2 ⟨hj, hi, g, (hv hi hj g).symm⟩
  have key2 : ∀ v, v ∈ corners s2 s1 (toolAt T (turnO o).a) (toolAt T (turnO o).b) (toolAt T (turnO o).c) (turnO o) 32 → -v ∈ corners s1 s2 (toolAt T o.a) (toolAt T o.b) (toolAt T o.c) o 32 := by
    intro v h
    obtain ⟨hi, hj, g, rfl⟩ := (corner_iff ..).1 h
    exact (corner_iff ..).2 ⟨hj, hi, g, by rw [hv hj hi g]; omega⟩
  have c1 := minmax_le (key1 _ a1)
  have c2 := minmax_le (key1 _ a2)
  have d1 := minmax_le (key2 _ b1)
  have d2 := minmax_le (key2 _ b2)
  generalize minmax (corners s1 s2 (toolAt T o.a) (toolAt T o.b) (toolAt T o.c) o 32) = X at c1 c2 d1 d2 ⊢
  generalize minmax (corners s2 s1 (toolAt T (turnO o).a) (toolAt T (turnO o).b) (toolAt T (turnO o).c) (turnO o) 32) = Y at c1 c2 d1 d2 ⊢
  obtain ⟨y1, y2⟩ := Y
  simp only at c1 c2 d1 d2 ⊢
  rw [show y1 = -X.hi by omega, show y2 = -X.lo by omega]
theorem spans_turn (B : List Blank) (T : List Span) (o : Ob) : spansP B T (turnO o) = ⟨⟨-(spansP B T o).p.hi, -(spansP B T o).p.lo⟩, ⟨-(spansP B T o).c.hi, -(spansP B T o).c.lo⟩⟩ := by
  unfold spansP
  rw [show (turnO o).f = o.s from rfl, show (turnO o).s = o.f from rfl, corner_turn, corner_turn]
theorem corner_thrice (s1 s2 : Span) (T : List Span) (f s t : Int) : minmax (corners s1 s2 (toolAt T t) (toolAt T t) (toolAt T t) ⟨f, s, t, t, t⟩ 32) = ⟨0, 0⟩ := by
  obtain ⟨a1, a2⟩ := minmax_mem (corners_ne s1 s2 (toolAt T t) (toolAt T t) (toolAt T t) ⟨f, s, t, t, t⟩)
  have key : ∀ v, v ∈ corners s1 s2 (toolAt T t) (toolAt T t) (toolAt T t) ⟨f, s, t, t, t⟩ 32 → v = 0 := by
    intro v h
    obtain ⟨hi, hj, g, rfl⟩ := (corner_iff s1 s2 T ⟨f, s, t, t, t⟩ v).1 h
    unfold endV pw
    simp
  have e1 := key _ a1
  have e2 := key _ a2
  generalize minmax (corners s1 s2 (toolAt T t) (toolAt T t) (toolAt T t) ⟨f, s, t, t, t⟩ 32) = X at e1 e2 ⊢
  obtain ⟨x, y⟩ := X
  simp only at e1 e2
  rw [e1, e2]
theorem spans_thrice (B : List Blank) (T : List Span) (f s t : Int) : spansP B T ⟨f, s, t, t, t⟩ = ⟨⟨0, 0⟩, ⟨0, 0⟩⟩ := by
  unfold spansP
  simp only
  rw [corner_thrice, corner_thrice]
end Go.Oc

/- Part Gnb. -/
namespace Go.Proofs.Ytcjcnmpecmbdeaa
open Go.RowKit Go.Pm Go.Oc
set_option maxRecDepth 100000
set_option linter.unusedVariables false
set_option maxHeartbeats 4000000

theorem Pick_c {l : List Int} {s : TV} (hs : IsRow ic s l) (hl : l.length ≤ 9223372036854775806) (n : Int) : PCalls Try.prog 43 [s, .int .i64 n] (.int .i64 (pickI l n)) := by
  have hI := rowI_is hs
  refine pcalls_by Try.mixes spB1_ok (fn := Try.f43) Try.func43 rfl (by kernel_rfl) (by show 2 ≤ _; decide) ?_
  unfold pickI
  by_cases h0 : l.length = 0
  · have h0' : ((l.length : Int) == 0) = true := beq_int_t (by omega)
    rcases hs with ⟨rfl, rfl⟩ | ⟨full, rfl⟩ <;> simp (decide := true) (maxSteps := 4000000) only [go_sem, Nat.reduceAdd, Nat.reduceSub, Nat.reduceMul, Nat.reduceDiv, Nat.reduceMod, Nat.reduceLT, Nat.reduceLeDiff, Nat.reduceEqDiff, Nat.reduceBEq, Nat.reduceBNe, Nat.reduceGT, Int.reduceAdd, Int.reduceSub, Int.reduceMul, Int.reduceNeg, Int.reduceLT, Int.reduceLE, Int.reduceEq, Int.reduceNe, Int.reduceBEq, Int.reduceBNe, Int.reduceToNat, Int.reduceGT, Int.reduceGE, ↓reduceIte, decide_true, decide_false, eq_self, Nat.mul_one, Nat.zero_mul, Nat.one_mul, Int.le_refl, Nat.le_refl, Int.cast_ofNat_Int, Try.f43, h0, h0', List.length_nil]
  · have h0' : ((l.length : Int) == 0) = false := beq_int_f (by omega)
    obtain ⟨full, rfl⟩ := hs.ne (by omega)
    have hc : 0 < (l.length : Int) ∧ (l.length : Int) ≤ 9223372036854775807 := by omega
    have m1 := Int.emod_nonneg n (show (l.length : Int) ≠ 0 by omega)
    have m2 := Int.emod_lt_of_pos n (show 0 < (l.length : Int) by omega)
    obtain ⟨k, hk⟩ := Int.eq_ofNat_of_zero_le m1
    rw [hk] at m2
    obtain ⟨x, hx⟩ := get_lt m2
    have d := flat_at ic (n := 1) (fun _ => rfl) hx
    rw [Nat.mul_one] at d
    simp (decide := true) (maxSteps := 4000000) only [go_sem, Nat.reduceAdd, Nat.reduceSub, Nat.reduceMul, Nat.reduceDiv, Nat.reduceMod, Nat.reduceLT, Nat.reduceLeDiff, Nat.reduceEqDiff, Nat.reduceBEq, Nat.reduceBNe, Nat.reduceGT, Int.reduceAdd, Int.reduceSub, Int.reduceMul, Int.reduceNeg, Int.reduceLT, Int.reduceLE, Int.reduceEq, Int.reduceNe, Int.reduceBEq, Int.reduceBNe, Int.reduceToNat, Int.reduceGT, Int.reduceGE, ↓reduceIte, decide_true, decide_false, eq_self, Nat.mul_one, Nat.zero_mul, Nat.one_mul, Int.le_refl, Nat.le_refl, Int.cast_ofNat_Int, Try.f43, h0, h0', hc, hk, m2, d, ic, Int.toNat_natCast, nth_eq hx]
noncomputable def gPick : List TV → Option TV
  | [s, .int .i64 n] => match rowL unI s with
    | some l => if l.length ≤ 9223372036854775806 then some (.int .i64 (pickI l n)) else none
    | none => none
  | _ => none
theorem gPick_ok : ∀ xs r, gPick xs = some r → PCalls Try.prog 43 xs r := by
  intro xs r h
  unfold gPick at h
  split at h
  · split at h
    · rename_i l hl
      split at h
      · rename_i hc; cases h
        exact Pick_c (rowL_some (un := unI) rfl (@unI_some) hl) hc _
      · cases h
    · cases h
  · cases h
attribute [go_sem] gPick
noncomputable def spN1 : Pm.Spec := spI1.one 43 gPick
@[go_sem] theorem spN1_p (f : FuncId) (xs : List TV) : spN1.p f xs = Pm.Spec.p (spI1.one 43 gPick) f xs := rfl
@[go_sem] theorem spN1_h (f : FuncId) (ps : List PV) (hl : List PO) : spN1.h f ps hl = Pm.Spec.h (spI1.one 43 gPick) f ps hl := rfl
@[go_sem] theorem spN1_fz (f : FuncId) : spN1.fz f = Pm.Spec.fz (spI1.one 43 gPick) f := rfl
@[go_sem] theorem spN1_fr (f : FuncId) : spN1.fr f = Pm.Spec.fr (spI1.one 43 gPick) f := rfl
@[go_sem] theorem spN1_mu (t : TypeId) : spN1.mu t = Pm.Spec.mu (spI1.one 43 gPick) t := rfl
theorem spN1_ok : SpecOk Try.prog spN1 := Spec.one_ok gPick_ok spI1_ok
theorem oChosen_c {B : List Blank} {T : List Span} (fB fT : Bool) (hs : stockOk B T = true) {bits : List Int} {s : TV} (hb : IsRow ic s bits) (hlb : bits.length ≤ 9223372036854775806) : PCalls Try.prog 33 [.agg [.sl (B.flatMap Blank.cs) B.length fB, .sl (T.flatMap Span.cs) T.length fT], s]
    (.agg [.sl (ints (chIx B bits B.length)) B.length false, .sl (ints (chCo B bits B.length)) B.length false, .sl (ints (chCu T bits T.length)) T.length false]) := by
  have hs' := stockOk_iff.1 hs
  have rI := rowI_is hb
  unfold rowL at rI
  refine pcalls_by Try.mixes spN1_ok (fn := Try.f33) Try.func33 rfl (by kernel_rfl) (by show 2 ≤ _; decide) ?_
  simp (decide := true) (maxSteps := 4000000) only [go_sem, Nat.reduceAdd, Nat.reduceSub, Nat.reduceMul, Nat.reduceDiv, Nat.reduceMod, Nat.reduceLT, Nat.reduceLeDiff, Nat.reduceEqDiff, Nat.reduceBEq, Nat.reduceBNe, Nat.reduceGT, Int.reduceAdd, Int.reduceSub, Int.reduceMul, Int.reduceNeg, Int.reduceLT, Int.reduceLE, Int.reduceEq, Int.reduceNe, Int.reduceBEq, Int.reduceBNe, Int.reduceToNat, Int.reduceGT, Int.reduceGE, ↓reduceIte, decide_true, decide_false, eq_self, Nat.mul_one, Nat.zero_mul, Nat.one_mul, Int.le_refl, Nat.le_refl, Int.cast_ofNat_Int, Try.f33]
  refine pwpC_loopU (A := { k : Nat // k ≤ B.length }) [1, 2, 4, 5] (fun k => [(6, .t (.int .i64 k.1))]) (fun k => [(2, .box [.own (ints (chIx B bits k.1)) k.1 3, .own (ints (chCo B bits k.1)) k.1 4, .t .nilSl]), (3, .tok k.1 3), (4, .tok k.1 3)]) (fun k => B.length - k.1) ⟨0, by omega⟩ (by decide) (fun _ => by rfl) ?_ fun Q1 hQ1 ⟨k, hk⟩ I1 hI1 => ?_
  · simp (decide := true) (maxSteps := 4000000) only [go_sem, Nat.reduceAdd, Nat.reduceSub, Nat.reduceMul, Nat.reduceDiv, Nat.reduceMod, Nat.reduceLT, Nat.reduceLeDiff, Nat.reduceEqDiff, Nat.reduceBEq, Nat.reduceBNe, Nat.reduceGT, Int.reduceAdd, Int.reduceSub, Int.reduceMul, Int.reduceNeg, Int.reduceLT, Int.reduceLE, Int.reduceEq, Int.reduceNe, Int.reduceBEq, Int.reduceBNe, Int.reduceToNat, Int.reduceGT, Int.reduceGE, ↓reduceIte, decide_true, decide_false, eq_self, Nat.mul_one, Nat.zero_mul, Nat.one_mul, Int.le_refl, Nat.le_refl, Int.cast_ofNat_Int, chIx, chCo, List.range_zero, List.map_nil, ints]
    first | done | exact ⟨rfl, rfl⟩
  · by_cases hlt : (k : Int) < B.length
    · obtain ⟨x, hx⟩ := get_lt hlt
      have hd := flat_at Blank.cs (n := 5) (fun _ => rfl) hx
      have hc1 : IntKind.i64.wrap (k + 1) = ((k + 1 : Nat) : Int) := by rw [wrap_in (by omega) (by omega)]; omega
      have w1 : IntKind.i64.wrap (2 * k) = 2 * (k : Int) := wrap_in (by omega) (by omega)
      have w2 : IntKind.i64.wrap (2 * (k : Int) + 1) = 2 * (k : Int) + 1 := wrap_in (by omega) (by omega)
      have z := hs'.2.2.1 x (List.mem_of_getElem? hx)
      have q1 : (-9223372036854775808 ≤ x.i.lo ∧ x.i.lo ≤ 9223372036854775807) ∧ -9223372036854775808 ≤ x.i.hi ∧ x.i.hi ≤ 9223372036854775807 := by omega
      have q2 : (-9223372036854775808 ≤ x.c.lo ∧ x.c.lo ≤ 9223372036854775807) ∧ -9223372036854775808 ≤ x.c.hi ∧ x.c.hi ≤ 9223372036854775807 := by omega
      have s1 := chIx_succ B bits k
      have s2 := chCo_succ B bits k
      rw [blankAt_eq hx] at s1 s2
      have el1 : (ints (chIx B bits k)).length = k := by rw [ints_len, chIx_len]
      have el2 : (ints (chCo B bits k)).length = k := by rw [ints_len, chCo_len]
      have hroom : (k + 1) * 8 ≤ 140737488355328 := by omega
      have hk8 : (k : Int) < 8 := by omega
      simp (decide := true) (maxSteps := 4000000) only [go_sem, Nat.reduceAdd, Nat.reduceSub, Nat.reduceMul, Nat.reduceDiv, Nat.reduceMod, Nat.reduceLT, Nat.reduceLeDiff, Nat.reduceEqDiff, Nat.reduceBEq, Nat.reduceBNe, Nat.reduceGT, Int.reduceAdd, Int.reduceSub, Int.reduceMul, Int.reduceNeg, Int.reduceLT, Int.reduceLE, Int.reduceEq, Int.reduceNe, Int.reduceBEq, Int.reduceBNe, Int.reduceToNat, Int.reduceGT, Int.reduceGE, ↓reduceIte, decide_true, decide_false, eq_self, Nat.mul_one, Nat.zero_mul, Nat.one_mul, Int.le_refl, Nat.le_refl, Int.cast_ofNat_Int, hlt, hk8, hd, Blank.cs, el1, el2, hroom, rI, hlb, w1, w2, q1, q2, Int.toNat_natCast]
      refine hI1 _ ⟨k + 1, by omega⟩ (by simp only; omega) ?_
      simp (decide := true) (maxSteps := 4000000) only [go_sem, Nat.reduceAdd, Nat.reduceSub, Nat.reduceMul, Nat.reduceDiv, Nat.reduceMod, Nat.reduceLT, Nat.reduceLeDiff, Nat.reduceEqDiff, Nat.reduceBEq, Nat.reduceBNe, Nat.reduceGT, Int.reduceAdd, Int.reduceSub, Int.reduceMul, Int.reduceNeg, Int.reduceLT, Int.reduceLE, Int.reduceEq, Int.reduceNe, Int.reduceBEq, Int.reduceBNe, Int.reduceToNat, Int.reduceGT, Int.reduceGE, ↓reduceIte, decide_true, decide_false, eq_self, Nat.mul_one, Nat.zero_mul, Nat.one_mul, Int.le_refl, Nat.le_refl, Int.cast_ofNat_Int, hc1, s1, s2, ints_snoc']
    · have hke : k = B.length := by omega
      subst hke
      simp (decide := true) (maxSteps := 4000000) only [go_sem, Nat.reduceAdd, Nat.reduceSub, Nat.reduceMul, Nat.reduceDiv, Nat.reduceMod, Nat.reduceLT, Nat.reduceLeDiff, Nat.reduceEqDiff, Nat.reduceBEq, Nat.reduceBNe, Nat.reduceGT, Int.reduceAdd, Int.reduceSub, Int.reduceMul, Int.reduceNeg, Int.reduceLT, Int.reduceLE, Int.reduceEq, Int.reduceNe, Int.reduceBEq, Int.reduceBNe, Int.reduceToNat, Int.reduceGT, Int.reduceGE, ↓reduceIte, decide_true, decide_false, eq_self, Nat.mul_one, Nat.zero_mul, Nat.one_mul, Int.le_refl, Nat.le_refl, Int.cast_ofNat_Int, hlt]
      refine hQ1 _ _ ?_
      simp (decide := true) (maxSteps := 4000000) only [go_sem, Nat.reduceAdd, Nat.reduceSub, Nat.reduceMul, Nat.reduceDiv, Nat.reduceMod, Nat.reduceLT, Nat.reduceLeDiff, Nat.reduceEqDiff, Nat.reduceBEq, Nat.reduceBNe, Nat.reduceGT, Int.reduceAdd, Int.reduceSub, Int.reduceMul, Int.reduceNeg, Int.reduceLT, Int.reduceLE, Int.reduceEq, Int.reduceNe, Int.reduceBEq, Int.reduceBNe, Int.reduceToNat, Int.reduceGT, Int.reduceGE, ↓reduceIte, decide_true, decide_false, eq_self, Nat.mul_one, Nat.zero_mul, Nat.one_mul, Int.le_refl, Nat.le_refl, Int.cast_ofNat_Int]
      refine pwpC_loopU (A := { k : Nat // k ≤ T.length }) [1, 2, 4, 5] (fun k => [(7, .t (.int .i64 k.1))]) (fun k => [(2, .box [.own (ints (chIx B bits B.length)) B.length 3, .own (ints (chCo B bits B.length)) B.length 4, .own (ints (chCu T bits k.1)) k.1 5]), (5, .tok k.1 3)]) (fun k => T.length - k.1) ⟨0, by omega⟩ (by decide) (fun _ => by rfl) ?_ fun Q2 hQ2 ⟨m, hm⟩ I2 hI2 => ?_
      · simp (decide := true) (maxSteps := 4000000) only [go_sem, Nat.reduceAdd, Nat.reduceSub, Nat.reduceMul, Nat.reduceDiv, Nat.reduceMod, Nat.reduceLT, Nat.reduceLeDiff, Nat.reduceEqDiff, Nat.reduceBEq, Nat.reduceBNe, Nat.reduceGT, Int.reduceAdd, Int.reduceSub, Int.reduceMul, Int.reduceNeg, Int.reduceLT, Int.reduceLE, Int.reduceEq, Int.reduceNe, Int.reduceBEq, Int.reduceBNe, Int.reduceToNat, Int.reduceGT, Int.reduceGE, ↓reduceIte, decide_true, decide_false, eq_self, Nat.mul_one, Nat.zero_mul, Nat.one_mul, Int.le_refl, Nat.le_refl, Int.cast_ofNat_Int, chCu, List.range_zero, List.map_nil, ints]
        first | done | rfl
      · by_cases hlt2 : (m : Int) < T.length
        · obtain ⟨y, hy⟩ := get_lt hlt2
          have hd := flat_at Span.cs (n := 2) (fun _ => rfl) hy
          have hc1 : IntKind.i64.wrap (m + 1) = ((m + 1 : Nat) : Int) := by rw [wrap_in (by omega) (by omega)]; omega
          have w1 : IntKind.i64.wrap (m + 5) = (m : Int) + 5 := wrap_in (by omega) (by omega)
          have z := hs'.2.2.2 y (List.mem_of_getElem? hy)
          have q1 : (-9223372036854775808 ≤ y.lo ∧ y.lo ≤ 9223372036854775807) ∧ -9223372036854775808 ≤ y.hi ∧ y.hi ≤ 9223372036854775807 := by omega
          have s3 := chCu_succ T bits m
          rw [toolAt_eq hy] at s3
          have el3 : (ints (chCu T bits m)).length = m := by rw [ints_len, chCu_len]
          have hroom : (m + 1) * 8 ≤ 140737488355328 := by omega
          have hm6 : (m : Int) < 6 := by omega
          simp (decide := true) (maxSteps := 4000000) only [go_sem, Nat.reduceAdd, Nat.reduceSub, Nat.reduceMul, Nat.reduceDiv, Nat.reduceMod, Nat.reduceLT, Nat.reduceLeDiff, Nat.reduceEqDiff, Nat.reduceBEq, Nat.reduceBNe, Nat.reduceGT, Int.reduceAdd, Int.reduceSub, Int.reduceMul, Int.reduceNeg, Int.reduceLT, Int.reduceLE, Int.reduceEq, Int.reduceNe, Int.reduceBEq, Int.reduceBNe, Int.reduceToNat, Int.reduceGT, Int.reduceGE, ↓reduceIte, decide_true, decide_false, eq_self, Nat.mul_one, Nat.zero_mul, Nat.one_mul, Int.le_refl, Nat.le_refl, Int.cast_ofNat_Int, hlt2, hm6, hd, Span.cs, el3, hroom, rI, hlb, w1, q1, Int.toNat_natCast]
          refine hI2 _ ⟨m + 1, by omega⟩ (by simp only; omega) ?_
          simp (decide := true) (maxSteps := 4000000) only [go_sem, Nat.reduceAdd, Nat.reduceSub, Nat.reduceMul, Nat.reduceDiv, Nat.reduceMod, Nat.reduceLT, Nat.reduceLeDiff, Nat.reduceEqDiff, Nat.reduceBEq, Nat.reduceBNe, Nat.reduceGT, Int.reduceAdd, Int.reduceSub, Int.reduceMul, Int.reduceNeg, Int.reduceLT, Int.reduceLE, Int.reduceEq, Int.reduceNe, Int.reduceBEq, Int.reduceBNe, Int.reduceToNat, Int.reduceGT, Int.reduceGE, ↓reduceIte, decide_true, decide_false, eq_self, Nat.mul_one, Nat.zero_mul, Nat.one_mul, Int.le_refl, Nat.le_refl, Int.cast_ofNat_Int, hc1, s3, ints_snoc']
        · have hme : m = T.length := by omega
          subst hme
          have n1 : ¬ B.length = 0 := by omega
          have n2 : ¬ T.length = 0 := by omega
          simp (decide := true) (maxSteps := 4000000) only [go_sem, Nat.reduceAdd, Nat.reduceSub, Nat.reduceMul, Nat.reduceDiv, Nat.reduceMod, Nat.reduceLT, Nat.reduceLeDiff, Nat.reduceEqDiff, Nat.reduceBEq, Nat.reduceBNe, Nat.reduceGT, Int.reduceAdd, Int.reduceSub, Int.reduceMul, Int.reduceNeg, Int.reduceLT, Int.reduceLE, Int.reduceEq, Int.reduceNe, Int.reduceBEq, Int.reduceBNe, Int.reduceToNat, Int.reduceGT, Int.reduceGE, ↓reduceIte, decide_true, decide_false, eq_self, Nat.mul_one, Nat.zero_mul, Nat.one_mul, Int.le_refl, Nat.le_refl, Int.cast_ofNat_Int, hlt2]
          refine hQ2 _ _ ?_
          simp (decide := true) (maxSteps := 4000000) only [go_sem, Nat.reduceAdd, Nat.reduceSub, Nat.reduceMul, Nat.reduceDiv, Nat.reduceMod, Nat.reduceLT, Nat.reduceLeDiff, Nat.reduceEqDiff, Nat.reduceBEq, Nat.reduceBNe, Nat.reduceGT, Int.reduceAdd, Int.reduceSub, Int.reduceMul, Int.reduceNeg, Int.reduceLT, Int.reduceLE, Int.reduceEq, Int.reduceNe, Int.reduceBEq, Int.reduceBNe, Int.reduceToNat, Int.reduceGT, Int.reduceGE, ↓reduceIte, decide_true, decide_false, eq_self, Nat.mul_one, Nat.zero_mul, Nat.one_mul, Int.le_refl, Nat.le_refl, Int.cast_ofNat_Int, n1, n2]
noncomputable def goChosen : List TV → Option TV
  | [.agg [.sl cB n fB, .sl cT m fT], s] => match unBlanks cB, unSpans cT, rowL unI s with
    | some B, some T, some bits => if n = B.length ∧ m = T.length ∧ stockOk B T = true ∧ bits.length ≤ 9223372036854775806 then
        some (.agg [.sl (ints (chIx B bits B.length)) B.length false, .sl (ints (chCo B bits B.length)) B.length false, .sl (ints (chCu T bits T.length)) T.length false]) else none
    | _, _, _ => none
  | _ => none
theorem goChosen_ok : ∀ xs r, goChosen xs = some r → PCalls Try.prog 33 xs r := by
  intro xs r h
  unfold goChosen at h
  split at h
  · split at h
    · rename_i B T bits hB hT hI
      split at h
      · rename_i hc; cases h
        obtain ⟨rfl, rfl, h1, h2⟩ := hc
        rw [unBlanks_some hB, unSpans_some hT]
        exact oChosen_c _ _ h1 (rowL_some (un := unI) rfl (@unI_some) hI) h2
      · cases h
    · cases h
  · cases h
attribute [go_sem] goChosen
noncomputable def spN2 : Pm.Spec := spN1.one 33 goChosen
@[go_sem] theorem spN2_p (f : FuncId) (xs : List TV) : spN2.p f xs = Pm.Spec.p (spN1.one 33 goChosen) f xs := rfl
@[go_sem] theorem spN2_h (f : FuncId) (ps : List PV) (hl : List PO) : spN2.h f ps hl = Pm.Spec.h (spN1.one 33 goChosen) f ps hl := rfl
@[go_sem] theorem spN2_fz (f : FuncId) : spN2.fz f = Pm.Spec.fz (spN1.one 33 goChosen) f := rfl
@[go_sem] theorem spN2_fr (f : FuncId) : spN2.fr f = Pm.Spec.fr (spN1.one 33 goChosen) f := rfl
@[go_sem] theorem spN2_mu (t : TypeId) : spN2.mu t = Pm.Spec.mu (spN1.one 33 goChosen) t := rfl
theorem spN2_ok : SpecOk Try.prog spN2 := Spec.one_ok goChosen_ok spN1_ok
end Go.Proofs.Ytcjcnmpecmbdeaa

/- Part Gn. -/
namespace Go.Proofs.Ytcjcnmpecmbdeaa
open Go.RowKit Go.Pm Go.Oc
set_option maxRecDepth 100000
set_option linter.unusedVariables false
set_option maxHeartbeats 4000000

theorem asked_no {B : List Blank} {T : List Span} (w : Want) (o : Ob) (h : stockOk B T = false ∨ obOk B.length T.length o = false) : (goodE B T w o).1 = false ∧ ((goodE B T w o).2 != 0) = true := by
  unfold goodE askedG
  rcases h with h | h <;> rw [h]
  · simp
  · cases stockOk B T <;> cases wantOk w <;> simp
theorem GlassBounded_c {B : List Blank} {T : List Span} {sB sT : TV} (hB : IsRow Blank.cs sB B) (hT : IsRow Span.cs sT T) (hlB : B.length ≤ 5864062014806) (hlT : T.length ≤ 9000000000000) (w : Want) (o : Ob) {bits : List Int} {sb : TV} (hb : IsRow ic sb bits) (hlb : bits.length ≤ 9223372036854775806) : PCalls Try.prog 7 [.agg [sB, sT], w.t, o.t, sb] (.bool true) := by
  have rB := rowB_is hB
  have rT := rowT_is hT
  have rI := rowI_is hb
  unfold rowL at rB rT rI
  have u1 : unBlanks [] = some [] := rfl
  have u2 : unSpans [] = some [] := rfl
  refine pcalls_by Try.mixes spN2_ok (fn := Try.f7) Try.func7 rfl (by kernel_rfl) (by show 4 ≤ _; decide) ?_
  rcases (Bool.eq_false_or_eq_true (stockOk B T)).symm with hs | hs
  · have sp : spansE B T o = (⟨⟨0, 0⟩, ⟨0, 0⟩⟩, 40) := by unfold spansE; rw [if_pos hs]
    obtain ⟨g1, g2⟩ := asked_no w o (.inl hs)
    rcases hB with ⟨rfl, rfl⟩ | ⟨fB, rfl⟩ <;> rcases hT with ⟨rfl, rfl⟩ | ⟨fT, rfl⟩ <;> simp (decide := true) (maxSteps := 4000000) only [go_sem, Nat.reduceAdd, Nat.reduceSub, Nat.reduceMul, Nat.reduceDiv, Nat.reduceMod, Nat.reduceLT, Nat.reduceLeDiff, Nat.reduceEqDiff, Nat.reduceBEq, Nat.reduceBNe, Nat.reduceGT, Int.reduceAdd, Int.reduceSub, Int.reduceMul, Int.reduceNeg, Int.reduceLT, Int.reduceLE, Int.reduceEq, Int.reduceNe, Int.reduceBEq, Int.reduceBNe, Int.reduceToNat, Int.reduceGT, Int.reduceGE, ↓reduceIte, decide_true, decide_false, eq_self, Nat.mul_one, Nat.zero_mul, Nat.one_mul, Int.le_refl, Nat.le_refl, Int.cast_ofNat_Int, Try.f7, Ob.t, Ob.cs, Want.t, Span.t, Span.cs, u1, u2, rB, rT, hlB, hlT, sp, g1, g2, List.length_nil]
  · rcases (Bool.eq_false_or_eq_true (obOk B.length T.length o)).symm with ho | ho
    · have sp : spansE B T o = (⟨⟨0, 0⟩, ⟨0, 0⟩⟩, 41) := by unfold spansE; rw [if_neg (by rw [hs]; decide), if_pos ho]
      obtain ⟨g1, g2⟩ := asked_no w o (.inr ho)
      rcases hB with ⟨rfl, rfl⟩ | ⟨fB, rfl⟩ <;> rcases hT with ⟨rfl, rfl⟩ | ⟨fT, rfl⟩ <;> simp (decide := true) (maxSteps := 4000000) only [go_sem, Nat.reduceAdd, Nat.reduceSub, Nat.reduceMul, Nat.reduceDiv, Nat.reduceMod, Nat.reduceLT, Nat.reduceLeDiff, Nat.reduceEqDiff, Nat.reduceBEq, Nat.reduceBNe, Nat.reduceGT, Int.reduceAdd, Int.reduceSub, Int.reduceMul, Int.reduceNeg, Int.reduceLT, Int.reduceLE, Int.reduceEq, Int.reduceNe, Int.reduceBEq, Int.reduceBNe, Int.reduceToNat, Int.reduceGT, Int.reduceGE, ↓reduceIte, decide_true, decide_false, eq_self, Nat.mul_one, Nat.zero_mul, Nat.one_mul, Int.le_refl, Nat.le_refl, Int.cast_ofNat_Int, Try.f7, Ob.t, Ob.cs, Want.t, Span.t, Span.cs, u1, u2, rB, rT, hlB, hlT, sp, g1, g2, List.length_nil]
    · have hs' := stockOk_iff.1 hs
      have ho' := obOk_iff.1 ho
      obtain ⟨fB, rfl⟩ := hB.ne (by omega)
      obtain ⟨fT, rfl⟩ := hT.ne (by omega)
      have sp : spansE B T o = (spansP B T o, 0) := by unfold spansE; rw [if_neg (by rw [hs]; decide), if_neg (by rw [ho]; decide)]
      have ht := chosen_truth hs bits
      have sn : seenP B T o (chIx B bits B.length) (chCo B bits B.length) (chCu T bits T.length) = (pw (nth (chIx B bits B.length) o.f) (nth (chIx B bits B.length) o.s) (nth (chCu T bits T.length) o.a) (nth (chCu T bits T.length) o.b) (nth (chCu T bits T.length) o.c), pw (nth (chCo B bits B.length) o.f) (nth (chCo B bits B.length) o.s) (nth (chCu T bits T.length) o.a) (nth (chCu T bits T.length) o.b) (nth (chCu T bits T.length) o.c), 0) := by
        unfold seenP; rw [if_neg (by rw [hs]; decide), if_neg (by rw [ho]; decide), if_neg (by rw [ht]; decide)]
      have hin := seen_in ho ht
      have hbd := spansP_bound hs ho
      have g1 : ¬ (B.length : Int) > 8 := by omega
      have g2 : ¬ (T.length : Int) > 6 := by omega
      generalize pw (nth (chIx B bits B.length) o.f) (nth (chIx B bits B.length) o.s) (nth (chCu T bits T.length) o.a) (nth (chCu T bits T.length) o.b) (nth (chCu T bits T.length) o.c) = X at sn hin
      generalize pw (nth (chCo B bits B.length) o.f) (nth (chCo B bits B.length) o.s) (nth (chCu T bits T.length) o.a) (nth (chCu T bits T.length) o.b) (nth (chCu T bits T.length) o.c) = Y at sn hin
      have hge : goodE B T w o = if wantOk w = false then (false, 43) else (goodB (spansP B T o) w, 0) := by
        unfold goodE askedG
        rw [hs, ho]
        cases wantOk w <;> simp
      obtain ⟨⟨⟨p1, p2⟩, ⟨c1, c2⟩⟩, hS⟩ : ∃ S, spansP B T o = S := ⟨_, rfl⟩
      rw [hS] at sp hin hbd hge
      simp only at hin hbd
      have i1 : inB X p1 p2 = true := inB_iff.2 hin.1
      have i2 : inB Y c1 c2 = true := inB_iff.2 hin.2
      cases hw : wantOk w with
      | false =>
        rw [hw] at hge
        simp only [if_true] at hge
        simp (decide := true) (maxSteps := 4000000) only [go_sem, Nat.reduceAdd, Nat.reduceSub, Nat.reduceMul, Nat.reduceDiv, Nat.reduceMod, Nat.reduceLT, Nat.reduceLeDiff, Nat.reduceEqDiff, Nat.reduceBEq, Nat.reduceBNe, Nat.reduceGT, Int.reduceAdd, Int.reduceSub, Int.reduceMul, Int.reduceNeg, Int.reduceLT, Int.reduceLE, Int.reduceEq, Int.reduceNe, Int.reduceBEq, Int.reduceBNe, Int.reduceToNat, Int.reduceGT, Int.reduceGE, ↓reduceIte, decide_true, decide_false, eq_self, Nat.mul_one, Nat.zero_mul, Nat.one_mul, Int.le_refl, Nat.le_refl, Int.cast_ofNat_Int, Try.f7, Ob.t, Ob.cs, Want.t, Span.t, Span.cs, rB, rT, rI, hlb, hs, hlB, hlT, sp, sn, g1, g2, hge, i1, i2, unI_eq, chIx_len, chCo_len, chCu_len]
      | true =>
        rw [hw] at hge
        simp only [Bool.true_eq_false, if_false] at hge
        have hw' : (-400000000 ≤ w.p.lo ∧ w.p.lo ≤ w.p.hi ∧ w.p.hi ≤ 400000000) ∧ 0 ≤ w.c ∧ w.c ≤ 400000000 := by
          simp only [wantOk, spannedB, inB, Bool.and_eq_true, decide_eq_true_eq] at hw; omega
        have wn : IntKind.i64.wrap (0 - w.c) = -w.c := by rw [wrap_in (by omega) (by omega)]; omega
        have wy : IntKind.i64.wrap (0 - Y) = -Y := by rw [wrap_in (by omega) (by omega)]; omega
        by_cases a1 : w.p.lo ≤ p1 <;> by_cases a2 : p2 ≤ w.p.hi <;> by_cases a3 : -w.c ≤ c1 <;> by_cases a4 : c2 ≤ w.c
        all_goals
          have hgb : goodB ⟨⟨p1, p2⟩, ⟨c1, c2⟩⟩ w = decide (w.p.lo ≤ p1 ∧ p2 ≤ w.p.hi ∧ -w.c ≤ c1 ∧ c2 ≤ w.c) := by
            unfold goodB worstS
            rw [Bool.eq_iff_iff]
            simp only [Bool.and_eq_true, decide_eq_true_eq]
            omega
          simp only [a1, a2, a3, a4, and_self, and_true, and_false, false_and, true_and, decide_true, decide_false] at hgb
          rw [hgb] at hge
          first
            | (simp (decide := true) (maxSteps := 4000000) only [go_sem, Nat.reduceAdd, Nat.reduceSub, Nat.reduceMul, Nat.reduceDiv, Nat.reduceMod, Nat.reduceLT, Nat.reduceLeDiff, Nat.reduceEqDiff, Nat.reduceBEq, Nat.reduceBNe, Nat.reduceGT, Int.reduceAdd, Int.reduceSub, Int.reduceMul, Int.reduceNeg, Int.reduceLT, Int.reduceLE, Int.reduceEq, Int.reduceNe, Int.reduceBEq, Int.reduceBNe, Int.reduceToNat, Int.reduceGT, Int.reduceGE, ↓reduceIte, decide_true, decide_false, eq_self, Nat.mul_one, Nat.zero_mul, Nat.one_mul, Int.le_refl, Nat.le_refl, Int.cast_ofNat_Int, Try.f7, Ob.t, Ob.cs, Want.t, Span.t, Span.cs, rB, rT, rI, hlb, hs, hlB, hlT, sp, sn, g1, g2, hge, i1, i2, unI_eq, chIx_len, chCo_len, chCu_len, wn, wy, a1, a2, a3, a4]
               done)
            | (have i3 : inB X w.p.lo w.p.hi = true := inB_iff.2 (by omega)
               have i4 : max Y (-Y) ≤ w.c := by omega
               simp (decide := true) (maxSteps := 4000000) only [go_sem, Nat.reduceAdd, Nat.reduceSub, Nat.reduceMul, Nat.reduceDiv, Nat.reduceMod, Nat.reduceLT, Nat.reduceLeDiff, Nat.reduceEqDiff, Nat.reduceBEq, Nat.reduceBNe, Nat.reduceGT, Int.reduceAdd, Int.reduceSub, Int.reduceMul, Int.reduceNeg, Int.reduceLT, Int.reduceLE, Int.reduceEq, Int.reduceNe, Int.reduceBEq, Int.reduceBNe, Int.reduceToNat, Int.reduceGT, Int.reduceGE, ↓reduceIte, decide_true, decide_false, eq_self, Nat.mul_one, Nat.zero_mul, Nat.one_mul, Int.le_refl, Nat.le_refl, Int.cast_ofNat_Int, Try.f7, Ob.t, Ob.cs, Want.t, Span.t, Span.cs, rB, rT, rI, hlb, hs, hlB, hlT, sp, sn, g1, g2, hge, i1, i2, unI_eq, chIx_len, chCo_len, chCu_len, wn, wy, a1, a2, a3, a4, i3, i4])
noncomputable def spN3 : Pm.Spec := spN2.one 50 goTo
@[go_sem] theorem spN3_p (f : FuncId) (xs : List TV) : spN3.p f xs = Pm.Spec.p (spN2.one 50 goTo) f xs := rfl
@[go_sem] theorem spN3_h (f : FuncId) (ps : List PV) (hl : List PO) : spN3.h f ps hl = Pm.Spec.h (spN2.one 50 goTo) f ps hl := rfl
@[go_sem] theorem spN3_fz (f : FuncId) : spN3.fz f = Pm.Spec.fz (spN2.one 50 goTo) f := rfl
@[go_sem] theorem spN3_fr (f : FuncId) : spN3.fr f = Pm.Spec.fr (spN2.one 50 goTo) f := rfl
@[go_sem] theorem spN3_mu (t : TypeId) : spN3.mu t = Pm.Spec.mu (spN2.one 50 goTo) t := rfl
theorem spN3_ok : SpecOk Try.prog spN3 := Spec.one_ok goTo_ok spN2_ok
theorem GlassTurned_c {B : List Blank} {T : List Span} {sB sT : TV} (hB : IsRow Blank.cs sB B) (hT : IsRow Span.cs sT T) (hlB : B.length ≤ 5864062014806) (hlT : T.length ≤ 9000000000000) (o : Ob) {bits : List Int} {sb : TV} (hb : IsRow ic sb bits) (hlb : bits.length ≤ 9223372036854775806) : PCalls Try.prog 11 [.agg [sB, sT], o.t, sb] (.bool true) := by
  have rB := rowB_is hB
  have rT := rowT_is hT
  have rI := rowI_is hb
  unfold rowL at rB rT rI
  have eT : ∀ o : Ob, (⟨o.s, o.f, o.c, o.b, o.a⟩ : Ob) = turnO o := fun _ => rfl
  have w0 : IntKind.i64.wrap 0 = 0 := rfl
  have wn0 : IntKind.i64.wrap (0 - 0) = 0 := rfl
  refine pcalls_by Try.mixes spN3_ok (fn := Try.f11) Try.func11 rfl (by kernel_rfl) (by show 3 ≤ _; decide) ?_
  rcases (Bool.eq_false_or_eq_true (stockOk B T)).symm with hs | hs
  · have sp : ∀ o, spansE B T o = (⟨⟨0, 0⟩, ⟨0, 0⟩⟩, 40) := fun o => by unfold spansE; rw [if_pos hs]
    simp (decide := true) (maxSteps := 4000000) only [go_sem, Nat.reduceAdd, Nat.reduceSub, Nat.reduceMul, Nat.reduceDiv, Nat.reduceMod, Nat.reduceLT, Nat.reduceLeDiff, Nat.reduceEqDiff, Nat.reduceBEq, Nat.reduceBNe, Nat.reduceGT, Int.reduceAdd, Int.reduceSub, Int.reduceMul, Int.reduceNeg, Int.reduceLT, Int.reduceLE, Int.reduceEq, Int.reduceNe, Int.reduceBEq, Int.reduceBNe, Int.reduceToNat, Int.reduceGT, Int.reduceGE, ↓reduceIte, decide_true, decide_false, eq_self, Nat.mul_one, Nat.zero_mul, Nat.one_mul, Int.le_refl, Nat.le_refl, Int.cast_ofNat_Int, Try.f11, Ob.t, Ob.cs, Span.t, Span.cs, rB, rT, hlB, hlT, sp, w0, wn0]
  · rcases (Bool.eq_false_or_eq_true (obOk B.length T.length o)).symm with ho | ho
    · have sp : spansE B T o = (⟨⟨0, 0⟩, ⟨0, 0⟩⟩, 41) := by unfold spansE; rw [if_neg (by rw [hs]; decide), if_pos ho]
      have sp2 : spansE B T (turnO o) = (⟨⟨0, 0⟩, ⟨0, 0⟩⟩, 41) := by unfold spansE; rw [if_neg (by rw [hs]; decide), turn_ok, if_pos ho]
      simp (decide := true) (maxSteps := 4000000) only [go_sem, Nat.reduceAdd, Nat.reduceSub, Nat.reduceMul, Nat.reduceDiv, Nat.reduceMod, Nat.reduceLT, Nat.reduceLeDiff, Nat.reduceEqDiff, Nat.reduceBEq, Nat.reduceBNe, Nat.reduceGT, Int.reduceAdd, Int.reduceSub, Int.reduceMul, Int.reduceNeg, Int.reduceLT, Int.reduceLE, Int.reduceEq, Int.reduceNe, Int.reduceBEq, Int.reduceBNe, Int.reduceToNat, Int.reduceGT, Int.reduceGE, ↓reduceIte, decide_true, decide_false, eq_self, Nat.mul_one, Nat.zero_mul, Nat.one_mul, Int.le_refl, Nat.le_refl, Int.cast_ofNat_Int, Try.f11, Ob.t, Ob.cs, Span.t, Span.cs, rB, rT, hlB, hlT, sp, eT, sp2, w0, wn0]
    · have hs' := stockOk_iff.1 hs
      have ho' := obOk_iff.1 ho
      have ho2 : obOk B.length T.length (turnO o) = true := by rw [turn_ok]; exact ho
      have ho3 : obOk B.length T.length ⟨o.s, o.f, o.a, o.a, o.a⟩ = true := obOk_iff.2 (by simp only; omega)
      obtain ⟨fB, rfl⟩ := hB.ne (by omega)
      obtain ⟨fT, rfl⟩ := hT.ne (by omega)
      have sp : ∀ o, obOk B.length T.length o = true → spansE B T o = (spansP B T o, 0) := fun o ho => by unfold spansE; rw [if_neg (by rw [hs]; decide), if_neg (by rw [ho]; decide)]
      have sp1 := sp o ho
      have sp2 := sp _ ho2
      have sp3 := sp _ ho3
      rw [spans_turn] at sp2
      rw [spans_thrice] at sp3
      have ht := chosen_truth hs bits
      have sn : ∀ o, obOk B.length T.length o = true → seenP B T o (chIx B bits B.length) (chCo B bits B.length) (chCu T bits T.length) = (pw (nth (chIx B bits B.length) o.f) (nth (chIx B bits B.length) o.s) (nth (chCu T bits T.length) o.a) (nth (chCu T bits T.length) o.b) (nth (chCu T bits T.length) o.c), pw (nth (chCo B bits B.length) o.f) (nth (chCo B bits B.length) o.s) (nth (chCu T bits T.length) o.a) (nth (chCu T bits T.length) o.b) (nth (chCu T bits T.length) o.c), 0) := fun o ho => by
        unfold seenP; rw [if_neg (by rw [hs]; decide), if_neg (by rw [ho]; decide), if_neg (by rw [ht]; decide)]
      have sn1 := sn o ho
      have sn2 := sn _ ho2
      rw [show (turnO o).f = o.s from rfl, show (turnO o).s = o.f from rfl, show (turnO o).a = o.c from rfl, show (turnO o).b = o.b from rfl, show (turnO o).c = o.a from rfl, pw_turn (nth (chIx B bits B.length) o.f) (nth (chIx B bits B.length) o.s) (nth (chCu T bits T.length) o.a) (nth (chCu T bits T.length) o.b) (nth (chCu T bits T.length) o.c), pw_turn (nth (chCo B bits B.length) o.f) (nth (chCo B bits B.length) o.s) (nth (chCu T bits T.length) o.a) (nth (chCu T bits T.length) o.b) (nth (chCu T bits T.length) o.c)] at sn2
      have hin := seen_in ho ht
      have hbd := spansP_bound hs ho
      generalize pw (nth (chIx B bits B.length) o.f) (nth (chIx B bits B.length) o.s) (nth (chCu T bits T.length) o.a) (nth (chCu T bits T.length) o.b) (nth (chCu T bits T.length) o.c) = X at sn1 sn2 hin
      generalize pw (nth (chCo B bits B.length) o.f) (nth (chCo B bits B.length) o.s) (nth (chCu T bits T.length) o.a) (nth (chCu T bits T.length) o.b) (nth (chCu T bits T.length) o.c) = Y at sn1 sn2 hin
      obtain ⟨⟨⟨p1, p2⟩, ⟨c1, c2⟩⟩, hS⟩ : ∃ S, spansP B T o = S := ⟨_, rfl⟩
      rw [hS] at sp1 sp2 hin hbd
      simp only at sp2 hin hbd
      have w1 : IntKind.i64.wrap (0 - -p1) = p1 := by rw [wrap_in (by omega) (by omega)]; omega
      have w2 : IntKind.i64.wrap (0 - -p2) = p2 := by rw [wrap_in (by omega) (by omega)]; omega
      have w3 : IntKind.i64.wrap (0 - -c1) = c1 := by rw [wrap_in (by omega) (by omega)]; omega
      have w4 : IntKind.i64.wrap (0 - -c2) = c2 := by rw [wrap_in (by omega) (by omega)]; omega
      have w5 : IntKind.i64.wrap (0 - -X) = X := by rw [wrap_in (by omega) (by omega)]; omega
      have w6 : IntKind.i64.wrap (0 - -Y) = Y := by rw [wrap_in (by omega) (by omega)]; omega
      simp (decide := true) (maxSteps := 4000000) only [go_sem, Nat.reduceAdd, Nat.reduceSub, Nat.reduceMul, Nat.reduceDiv, Nat.reduceMod, Nat.reduceLT, Nat.reduceLeDiff, Nat.reduceEqDiff, Nat.reduceBEq, Nat.reduceBNe, Nat.reduceGT, Int.reduceAdd, Int.reduceSub, Int.reduceMul, Int.reduceNeg, Int.reduceLT, Int.reduceLE, Int.reduceEq, Int.reduceNe, Int.reduceBEq, Int.reduceBNe, Int.reduceToNat, Int.reduceGT, Int.reduceGE, ↓reduceIte, decide_true, decide_false, eq_self, Nat.mul_one, Nat.zero_mul, Nat.one_mul, Int.le_refl, Nat.le_refl, Int.cast_ofNat_Int, Try.f11, Ob.t, Ob.cs, Span.t, Span.cs, rB, rT, rI, hlb, hs, hlB, hlT, sp1, eT, sp2, sn1, sn2, sp3, w1, w2, w3, w4, w5, w6, unI_eq, chIx_len, chCo_len, chCu_len, beq_self_eq_true, Bool.and_self, bne_self_eq_false]
end Go.Proofs.Ytcjcnmpecmbdeaa

/- Part Goa. -/
namespace Go.Oc
open Go Go.Pm
theorem before_irr : ∀ l : List Int, before l l = false
  | [] => rfl
  | x :: l => by simp [before, before_irr l]
/-- Does one objective come before another one? -/
def obB (o q : Ob) : Bool := before [o.f, o.s, o.a, o.b, o.c] [q.f, q.s, q.a, q.b, q.c]
def obKey (B : List Blank) (T : List Span) (o : Ob) : List Int := [worstS (spansP B T o).c, priceO B o, o.f, o.s, o.a, o.b, o.c]
theorem obB_iff {o q : Ob} : obB o q = true ↔ o.f < q.f ∨ o.f = q.f ∧ (o.s < q.s ∨ o.s = q.s ∧ (o.a < q.a ∨ o.a = q.a ∧ (o.b < q.b ∨ o.b = q.b ∧ o.c < q.c))) := by
  unfold obB
  simp only [before]
  repeat' split
  all_goals first | omega | (constructor <;> intro h <;> first | rfl | omega | (cases h; done))
theorem key_iff {B : List Blank} {T : List Span} {o q : Ob} : before (obKey B T o) (obKey B T q) = true ↔ worstS (spansP B T o).c < worstS (spansP B T q).c ∨ worstS (spansP B T o).c = worstS (spansP B T q).c ∧ (priceO B o < priceO B q ∨ priceO B o = priceO B q ∧ obB o q = true) := by
  unfold obKey obB
  rw [before, before]
  repeat' split
  all_goals (constructor <;> intro h <;> first | rfl | omega | (cases h; done) | exact .inr ⟨by omega, .inr ⟨by omega, h⟩⟩ | (rcases h with h | ⟨_, h | ⟨_, h⟩⟩ <;> first | omega | exact h))
theorem obs2_sorted (m i j : Nat) : (obs2 m i j).Pairwise fun o q => obB o q = true := by
  unfold obs2
  rw [List.pairwise_map]
  refine List.Pairwise.imp_of_mem ?_ List.pairwise_lt_range
  intro x y hx hy hlt
  rw [obB_iff]
  simp only [true_and, Int.lt_irrefl, false_or]
  have hm : 0 < m := by
    rcases Nat.eq_zero_or_pos m with h | h
    · subst h; simp at hx
    · exact h
  have a1 := Nat.div_le_div_right (c := m) (show x ≤ y by omega)
  have a2 := Nat.div_le_div_right (c := m) a1
  have e1 := Nat.div_add_mod x m
  have e2 := Nat.div_add_mod y m
  have e3 := Nat.div_add_mod (x / m) m
  have e4 := Nat.div_add_mod (y / m) m
  by_cases c1 : x / m = y / m
  · have c2 : x % m < y % m := by rw [c1] at e1; omega
    rw [c1]; omega
  · by_cases c3 : x / m / m = y / m / m
    · have c4 : x / m % m < y / m % m := by rw [c3] at e3; omega
      rw [c3]; omega
    · omega
theorem obs1_sorted (n m i : Nat) : (obs1 n m i).Pairwise fun o q => obB o q = true := by
  unfold obs1
  rw [List.pairwise_flatMap]
  refine ⟨fun j _ => ?_, List.Pairwise.imp_of_mem ?_ List.pairwise_lt_range⟩
  · split
    · exact List.Pairwise.nil
    · exact obs2_sorted ..
  · intro j k _ _ hjk o ho q hq
    split at ho
    · cases ho
    · split at hq
      · cases hq
      · unfold obs2 at ho hq
        obtain ⟨x, _, rfl⟩ := List.mem_map.1 ho
        obtain ⟨y, _, rfl⟩ := List.mem_map.1 hq
        rw [obB_iff]; simp only [true_and, Int.lt_irrefl, false_or]; omega
theorem obs1_f {n m i : Nat} {o : Ob} (h : o ∈ obs1 n m i) : o.f = i := by
  unfold obs1 at h
  obtain ⟨j, _, hj⟩ := List.mem_flatMap.1 h
  split at hj
  · cases hj
  · unfold obs2 at hj
    obtain ⟨x, _, rfl⟩ := List.mem_map.1 hj
    rfl
theorem obsA_sorted (n m : Nat) : (obsA n m).Pairwise fun o q => obB o q = true := by
  unfold obsA
  rw [List.pairwise_flatMap]
  refine ⟨fun i _ => obs1_sorted .., List.Pairwise.imp_of_mem ?_ List.pairwise_lt_range⟩
  intro i k _ _ hik o ho q hq
  rw [obB_iff, obs1_f ho, obs1_f hq]; omega
/-- Each objective is one of all. -/
theorem obsA_mem {n m : Nat} {o : Ob} (h : obOk n m o = true) : o ∈ obsA n m := by
  obtain ⟨a, b, c, d, e, f⟩ := obOk_iff.1 h
  obtain ⟨of, os, oa, ob, oc⟩ := o
  simp only at a b c d e f
  obtain ⟨i, rfl⟩ := Int.eq_ofNat_of_zero_le a.1
  obtain ⟨j, rfl⟩ := Int.eq_ofNat_of_zero_le b.1
  obtain ⟨x, rfl⟩ := Int.eq_ofNat_of_zero_le d.1
  obtain ⟨y, rfl⟩ := Int.eq_ofNat_of_zero_le e.1
  obtain ⟨z, rfl⟩ := Int.eq_ofNat_of_zero_le f.1
  unfold obsA obs1
  refine List.mem_flatMap.2 ⟨i, List.mem_range.2 (by omega), List.mem_flatMap.2 ⟨j, List.mem_range.2 (by omega), ?_⟩⟩
  rw [if_neg (by omega)]
  exact List.mem_of_getElem? (obs2_at (a := x) (b := y) (c := z) (by omega) (by omega) (by omega))
/-- What is found in a sorted list: one that is good, before which no good one comes. -/
theorem bst_best {B : List Blank} {T : List Span} (w : Want) : ∀ (L : List Ob), L.Pairwise (fun o q => obB o q = true) →
    ((L.foldl (bstStep B T w) bst0).is = false → ∀ o ∈ L, goodB (spansP B T o) w = false) ∧
    ((L.foldl (bstStep B T w) bst0).is = true → (L.foldl (bstStep B T w) bst0).o ∈ L ∧ goodB (spansP B T (L.foldl (bstStep B T w) bst0).o) w = true ∧ (L.foldl (bstStep B T w) bst0).n = worstS (spansP B T (L.foldl (bstStep B T w) bst0).o).c ∧ (L.foldl (bstStep B T w) bst0).p = priceO B (L.foldl (bstStep B T w) bst0).o ∧
      ∀ o ∈ L, goodB (spansP B T o) w = true → before (obKey B T o) (obKey B T (L.foldl (bstStep B T w) bst0).o) = false) := by
  intro L
  suffices h : ∀ n (L : List Ob), L.length = n → L.Pairwise (fun o q => obB o q = true) →
    ((L.foldl (bstStep B T w) bst0).is = false → ∀ o ∈ L, goodB (spansP B T o) w = false) ∧
    ((L.foldl (bstStep B T w) bst0).is = true → (L.foldl (bstStep B T w) bst0).o ∈ L ∧ goodB (spansP B T (L.foldl (bstStep B T w) bst0).o) w = true ∧ (L.foldl (bstStep B T w) bst0).n = worstS (spansP B T (L.foldl (bstStep B T w) bst0).o).c ∧ (L.foldl (bstStep B T w) bst0).p = priceO B (L.foldl (bstStep B T w) bst0).o ∧
      ∀ o ∈ L, goodB (spansP B T o) w = true → before (obKey B T o) (obKey B T (L.foldl (bstStep B T w) bst0).o) = false) from h L.length L rfl
  intro n
  induction n with
  | zero =>
    intro L hL _
    have := List.length_eq_zero_iff.1 hL
    subst this
    exact ⟨fun _ o h => (by cases h), fun h => (by cases h)⟩
  | succ n ih =>
    intro L hL hp
    rcases snoc_cases L with rfl | ⟨I, q, rfl⟩
    · simp at hL
    · simp only [List.length_append, List.length_cons, List.length_nil] at hL
      rw [List.pairwise_append] at hp
      obtain ⟨ih1, ih2⟩ := ih I (by omega) hp.1
      rw [List.foldl_append, List.foldl_cons, List.foldl_nil]
      generalize I.foldl (bstStep B T w) bst0 = X at ih1 ih2 ⊢
      unfold bstStep
      cases hg : goodB (spansP B T q) w with
      | false =>
        simp only [Bool.false_eq_true, if_false]
        refine ⟨fun h o ho => ?_, fun h => ?_⟩
        · rcases List.mem_append.1 ho with ho | ho
          · exact ih1 h o ho
          · rw [List.mem_singleton] at ho; rw [ho]; exact hg
        · obtain ⟨a, b, c, d, e⟩ := ih2 h
          refine ⟨List.mem_append_left _ a, b, c, d, fun o ho hgo => ?_⟩
          rcases List.mem_append.1 ho with ho | ho
          · exact e o ho hgo
          · rw [List.mem_singleton] at ho; rw [ho, hg] at hgo; cases hgo
      | true =>
        simp only [if_true]
        split
        · rename_i hc
          refine ⟨fun h => (by cases h), fun _ => ⟨by simp, hg, rfl, rfl, fun o ho hgo => ?_⟩⟩
          simp only
          rcases List.mem_append.1 ho with ho | ho
          · cases hi : X.is with
            | false => rw [ih1 hi o ho] at hgo; cases hgo
            | true =>
              obtain ⟨a, b, c, d, e⟩ := ih2 hi
              have := e o ho hgo
              rw [← Bool.not_eq_true, key_iff] at this ⊢
              rw [hi, c, d] at hc
              intro h'
              apply this
              rcases hc with hc | hc | hc
              · cases hc
              · left; omega
              · rcases h' with h' | ⟨h1, h' | ⟨h2, h'⟩⟩
                · left; omega
                · right; exact ⟨by omega, by omega⟩
                · right; exact ⟨by omega, by omega⟩
          · rw [List.mem_singleton] at ho; rw [ho]; exact before_irr _
        · rename_i hc
          refine ⟨fun h => absurd (.inl h) hc, fun h => ?_⟩
          obtain ⟨a, b, c, d, e⟩ := ih2 h
          refine ⟨List.mem_append_left _ a, b, c, d, fun o ho hgo => ?_⟩
          rcases List.mem_append.1 ho with ho | ho
          · exact e o ho hgo
          · rw [List.mem_singleton] at ho
            subst ho
            rw [← Bool.not_eq_true, key_iff]
            rw [c, d] at hc
            have h1 := hp.2.2 X.o a o (by simp)
            rw [obB_iff] at h1
            rintro (h' | ⟨h1', h' | ⟨h2', h'⟩⟩)
            · exact hc (.inr (.inl h'))
            · exact hc (.inr (.inr ⟨h1', h'⟩))
            · rw [obB_iff] at h'; omega
end Go.Oc

/- Part Go. -/
namespace Go.Oc
open Go Go.Pm
theorem before_end : ∀ {a b : List Int}, a = [] ∨ b = [] → before a b = decide (a.length < b.length)
  | [], [], _ => rfl
  | [], _ :: _, _ => by simp [before]
  | _ :: _, [], _ => by simp [before]
  | _ :: _, _ :: _, h => by rcases h with h | h <;> cases h
/-- The number that is compared: of a span of colours. -/
theorem worst_abs {c : Span} (h : c.lo ≤ c.hi) : max (max c.lo (-c.lo)) (max c.hi (-c.hi)) = worstS c := by unfold worstS; omega
/-- What Best says of the objectives of a stock. -/
theorem best_says {B : List Blank} {T : List Span} {w : Want} (hs : stockOk B T = true) (hw : wantOk w = true) :
    ((bestP B T w = (bst0.o, 0, 4) ∧ ∀ o, obOk B.length T.length o = true → goodB (spansP B T o) w = false) ∨
     ∃ b, bestP B T w = (b, worstS (spansP B T b).c, 0) ∧ obOk B.length T.length b = true ∧ goodB (spansP B T b) w = true ∧ ∀ o, obOk B.length T.length o = true → goodB (spansP B T o) w = true → before (obKey B T o) (obKey B T b) = false) := by
  have hs' := stockOk_iff.1 hs
  obtain ⟨h1, h2⟩ := bst_best (B := B) (T := T) w _ (obsA_sorted B.length T.length)
  unfold bestP
  rw [if_neg (by rw [hs]; decide), if_neg (by rw [hw]; decide)]
  simp only
  generalize (obsA B.length T.length).foldl (bstStep B T w) bst0 = X at h1 h2 ⊢
  cases hi : X.is with
  | false =>
    left
    exact ⟨by simp, fun o ho => h1 hi o (obsA_mem ho)⟩
  | true =>
    right
    obtain ⟨a, b, c, d, e⟩ := h2 hi
    exact ⟨X.o, by simp [c], obs_mem (by omega) a, b, fun o ho hg => e o (obsA_mem ho) hg⟩
end Go.Oc
namespace Go.Proofs.Ytcjcnmpecmbdeaa
open Go.RowKit Go.Pm Go.Oc
set_option maxRecDepth 100000
set_option linter.unusedVariables false
set_option maxHeartbeats 4000000

theorem Before_c (a b : List Int) (fa fb : Bool) (ha : a.length ≤ 9223372036854775806) (hb : b.length ≤ 9223372036854775806) : PCalls Try.prog 49 [.sl (ints a) a.length fa, .sl (ints b) b.length fb] (.bool (before a b)) := by
  refine pcalls_by Try.mixes noSpec_ok (fn := Try.f49) Try.func49 rfl (by kernel_rfl) (by show 2 ≤ _; decide) ?_
  simp (decide := true) (maxSteps := 4000000) only [go_sem, Nat.reduceAdd, Nat.reduceSub, Nat.reduceMul, Nat.reduceDiv, Nat.reduceMod, Nat.reduceLT, Nat.reduceLeDiff, Nat.reduceEqDiff, Nat.reduceBEq, Nat.reduceBNe, Nat.reduceGT, Int.reduceAdd, Int.reduceSub, Int.reduceMul, Int.reduceNeg, Int.reduceLT, Int.reduceLE, Int.reduceEq, Int.reduceNe, Int.reduceBEq, Int.reduceBNe, Int.reduceToNat, Int.reduceGT, Int.reduceGE, ↓reduceIte, decide_true, decide_false, eq_self, Nat.mul_one, Nat.zero_mul, Nat.one_mul, Int.le_refl, Nat.le_refl, Int.cast_ofNat_Int, Try.f49]
  refine pwpC_loopU (A := { k : Nat // k ≤ min a.length b.length ∧ before a b = before (a.drop k) (b.drop k) }) [0, 1] (fun k => [(5, .t (.int .i64 k.1))]) (fun k => []) (fun k => min a.length b.length - k.1) ⟨0, by omega, rfl⟩ (by decide) (fun _ => by rfl) ?_ fun Q1 hQ1 ⟨k, hk, hbf⟩ I1 hI1 => ?_
  · simp (decide := true) (maxSteps := 4000000) only [go_sem, Nat.reduceAdd, Nat.reduceSub, Nat.reduceMul, Nat.reduceDiv, Nat.reduceMod, Nat.reduceLT, Nat.reduceLeDiff, Nat.reduceEqDiff, Nat.reduceBEq, Nat.reduceBNe, Nat.reduceGT, Int.reduceAdd, Int.reduceSub, Int.reduceMul, Int.reduceNeg, Int.reduceLT, Int.reduceLE, Int.reduceEq, Int.reduceNe, Int.reduceBEq, Int.reduceBNe, Int.reduceToNat, Int.reduceGT, Int.reduceGE, ↓reduceIte, decide_true, decide_false, eq_self, Nat.mul_one, Nat.zero_mul, Nat.one_mul, Int.le_refl, Nat.le_refl, Int.cast_ofNat_Int]
  · by_cases hlt : (k : Int) < min (a.length : Int) b.length
    · have hc1 : IntKind.i64.wrap (k + 1) = ((k + 1 : Nat) : Int) := by rw [wrap_in (by omega) (by omega)]; omega
      have hka : (k : Int) < a.length := by omega
      have hkb : (k : Int) < b.length := by omega
      obtain ⟨x, hx⟩ := get_lt hka
      obtain ⟨y, hy⟩ := get_lt hkb
      have da : a.drop k = x :: a.drop (k + 1) := by rw [List.drop_eq_getElem_cons (by omega)]; rw [List.getElem?_eq_getElem (by omega)] at hx; cases hx; rfl
      have db : b.drop k = y :: b.drop (k + 1) := by rw [List.drop_eq_getElem_cons (by omega)]; rw [List.getElem?_eq_getElem (by omega)] at hy; cases hy; rfl
      have ia := ints_at hx
      have ib := ints_at hy
      rw [Nat.mul_one] at ia ib
      rw [da, db] at hbf
      simp only [before] at hbf
      by_cases h1 : x < y
      · rw [if_pos h1] at hbf
        simp (decide := true) (maxSteps := 4000000) only [go_sem, Nat.reduceAdd, Nat.reduceSub, Nat.reduceMul, Nat.reduceDiv, Nat.reduceMod, Nat.reduceLT, Nat.reduceLeDiff, Nat.reduceEqDiff, Nat.reduceBEq, Nat.reduceBNe, Nat.reduceGT, Int.reduceAdd, Int.reduceSub, Int.reduceMul, Int.reduceNeg, Int.reduceLT, Int.reduceLE, Int.reduceEq, Int.reduceNe, Int.reduceBEq, Int.reduceBNe, Int.reduceToNat, Int.reduceGT, Int.reduceGE, ↓reduceIte, decide_true, decide_false, eq_self, Nat.mul_one, Nat.zero_mul, Nat.one_mul, Int.le_refl, Nat.le_refl, Int.cast_ofNat_Int, hlt, hka, hkb, ia, ib, h1, hbf]
        try (refine hQ1 _ _ ?_; simp (decide := true) (maxSteps := 4000000) only [go_sem, Nat.reduceAdd, Nat.reduceSub, Nat.reduceMul, Nat.reduceDiv, Nat.reduceMod, Nat.reduceLT, Nat.reduceLeDiff, Nat.reduceEqDiff, Nat.reduceBEq, Nat.reduceBNe, Nat.reduceGT, Int.reduceAdd, Int.reduceSub, Int.reduceMul, Int.reduceNeg, Int.reduceLT, Int.reduceLE, Int.reduceEq, Int.reduceNe, Int.reduceBEq, Int.reduceBNe, Int.reduceToNat, Int.reduceGT, Int.reduceGE, ↓reduceIte, decide_true, decide_false, eq_self, Nat.mul_one, Nat.zero_mul, Nat.one_mul, Int.le_refl, Nat.le_refl, Int.cast_ofNat_Int, hbf])
      · rw [if_neg h1] at hbf
        by_cases h2 : y < x
        · rw [if_pos h2] at hbf
          have h2' : x > y := h2
          simp (decide := true) (maxSteps := 4000000) only [go_sem, Nat.reduceAdd, Nat.reduceSub, Nat.reduceMul, Nat.reduceDiv, Nat.reduceMod, Nat.reduceLT, Nat.reduceLeDiff, Nat.reduceEqDiff, Nat.reduceBEq, Nat.reduceBNe, Nat.reduceGT, Int.reduceAdd, Int.reduceSub, Int.reduceMul, Int.reduceNeg, Int.reduceLT, Int.reduceLE, Int.reduceEq, Int.reduceNe, Int.reduceBEq, Int.reduceBNe, Int.reduceToNat, Int.reduceGT, Int.reduceGE, ↓reduceIte, decide_true, decide_false, eq_self, Nat.mul_one, Nat.zero_mul, Nat.one_mul, Int.le_refl, Nat.le_refl, Int.cast_ofNat_Int, hlt, hka, hkb, ia, ib, h1, h2', hbf]
          try (refine hQ1 _ _ ?_; simp (decide := true) (maxSteps := 4000000) only [go_sem, Nat.reduceAdd, Nat.reduceSub, Nat.reduceMul, Nat.reduceDiv, Nat.reduceMod, Nat.reduceLT, Nat.reduceLeDiff, Nat.reduceEqDiff, Nat.reduceBEq, Nat.reduceBNe, Nat.reduceGT, Int.reduceAdd, Int.reduceSub, Int.reduceMul, Int.reduceNeg, Int.reduceLT, Int.reduceLE, Int.reduceEq, Int.reduceNe, Int.reduceBEq, Int.reduceBNe, Int.reduceToNat, Int.reduceGT, Int.reduceGE, ↓reduceIte, decide_true, decide_false, eq_self, Nat.mul_one, Nat.zero_mul, Nat.one_mul, Int.le_refl, Nat.le_refl, Int.cast_ofNat_Int, hbf])
        · rw [if_neg h2] at hbf
          have h2' : ¬ x > y := h2
          simp (decide := true) (maxSteps := 4000000) only [go_sem, Nat.reduceAdd, Nat.reduceSub, Nat.reduceMul, Nat.reduceDiv, Nat.reduceMod, Nat.reduceLT, Nat.reduceLeDiff, Nat.reduceEqDiff, Nat.reduceBEq, Nat.reduceBNe, Nat.reduceGT, Int.reduceAdd, Int.reduceSub, Int.reduceMul, Int.reduceNeg, Int.reduceLT, Int.reduceLE, Int.reduceEq, Int.reduceNe, Int.reduceBEq, Int.reduceBNe, Int.reduceToNat, Int.reduceGT, Int.reduceGE, ↓reduceIte, decide_true, decide_false, eq_self, Nat.mul_one, Nat.zero_mul, Nat.one_mul, Int.le_refl, Nat.le_refl, Int.cast_ofNat_Int, hlt, hka, hkb, ia, ib, h1, h2']
          refine hI1 _ ⟨k + 1, by omega, hbf⟩ (by simp only; omega) ?_
          simp (decide := true) (maxSteps := 4000000) only [go_sem, Nat.reduceAdd, Nat.reduceSub, Nat.reduceMul, Nat.reduceDiv, Nat.reduceMod, Nat.reduceLT, Nat.reduceLeDiff, Nat.reduceEqDiff, Nat.reduceBEq, Nat.reduceBNe, Nat.reduceGT, Int.reduceAdd, Int.reduceSub, Int.reduceMul, Int.reduceNeg, Int.reduceLT, Int.reduceLE, Int.reduceEq, Int.reduceNe, Int.reduceBEq, Int.reduceBNe, Int.reduceToNat, Int.reduceGT, Int.reduceGE, ↓reduceIte, decide_true, decide_false, eq_self, Nat.mul_one, Nat.zero_mul, Nat.one_mul, Int.le_refl, Nat.le_refl, Int.cast_ofNat_Int, hc1]
    · simp (decide := true) (maxSteps := 4000000) only [go_sem, Nat.reduceAdd, Nat.reduceSub, Nat.reduceMul, Nat.reduceDiv, Nat.reduceMod, Nat.reduceLT, Nat.reduceLeDiff, Nat.reduceEqDiff, Nat.reduceBEq, Nat.reduceBNe, Nat.reduceGT, Int.reduceAdd, Int.reduceSub, Int.reduceMul, Int.reduceNeg, Int.reduceLT, Int.reduceLE, Int.reduceEq, Int.reduceNe, Int.reduceBEq, Int.reduceBNe, Int.reduceToNat, Int.reduceGT, Int.reduceGE, ↓reduceIte, decide_true, decide_false, eq_self, Nat.mul_one, Nat.zero_mul, Nat.one_mul, Int.le_refl, Nat.le_refl, Int.cast_ofNat_Int, hlt]
      refine hQ1 _ _ ?_
      have e : before a b = decide ((a.length : Int) < b.length) := by
        rw [hbf, before_end]
        · simp only [List.length_drop]
          rw [decide_eq_decide]
          omega
        · rcases Nat.le_total a.length b.length with h | h
          · exact .inl (List.drop_eq_nil_of_le (by omega))
          · exact .inr (List.drop_eq_nil_of_le (by omega))
      simp (decide := true) (maxSteps := 4000000) only [go_sem, Nat.reduceAdd, Nat.reduceSub, Nat.reduceMul, Nat.reduceDiv, Nat.reduceMod, Nat.reduceLT, Nat.reduceLeDiff, Nat.reduceEqDiff, Nat.reduceBEq, Nat.reduceBNe, Nat.reduceGT, Int.reduceAdd, Int.reduceSub, Int.reduceMul, Int.reduceNeg, Int.reduceLT, Int.reduceLE, Int.reduceEq, Int.reduceNe, Int.reduceBEq, Int.reduceBNe, Int.reduceToNat, Int.reduceGT, Int.reduceGE, ↓reduceIte, decide_true, decide_false, eq_self, Nat.mul_one, Nat.zero_mul, Nat.one_mul, Int.le_refl, Nat.le_refl, Int.cast_ofNat_Int, e]
noncomputable def gBefore : List TV → Option TV
  | [.sl cs n f, .sl cs' n' f'] => match unI cs, unI cs' with
    | some a, some b => if n = a.length ∧ n' = b.length ∧ a.length ≤ 62 ∧ b.length ≤ 62 then some (.bool (before a b)) else none
    | _, _ => none
  | _ => none
theorem gBefore_ok : ∀ xs r, gBefore xs = some r → PCalls Try.prog 49 xs r := by
  intro xs r h
  unfold gBefore at h
  split at h
  · split at h
    · rename_i a b ha hb
      split at h
      · rename_i hc; cases h
        have e1 := unI_some ha
        have e2 := unI_some hb
        rw [ic_ints] at e1 e2
        obtain ⟨rfl, rfl, h1, h2⟩ := hc
        rw [e1, e2]
        exact Before_c a b _ _ (by omega) (by omega)
      · cases h
    · cases h
  · cases h
attribute [go_sem] gBefore
noncomputable def spO1 : Pm.Spec := spL3.one 49 gBefore
@[go_sem] theorem spO1_p (f : FuncId) (xs : List TV) : spO1.p f xs = Pm.Spec.p (spL3.one 49 gBefore) f xs := rfl
@[go_sem] theorem spO1_h (f : FuncId) (ps : List PV) (hl : List PO) : spO1.h f ps hl = Pm.Spec.h (spL3.one 49 gBefore) f ps hl := rfl
@[go_sem] theorem spO1_fz (f : FuncId) : spO1.fz f = Pm.Spec.fz (spL3.one 49 gBefore) f := rfl
@[go_sem] theorem spO1_fr (f : FuncId) : spO1.fr f = Pm.Spec.fr (spL3.one 49 gBefore) f := rfl
@[go_sem] theorem spO1_mu (t : TypeId) : spO1.mu t = Pm.Spec.mu (spL3.one 49 gBefore) t := rfl
theorem spO1_ok : SpecOk Try.prog spO1 := Spec.one_ok gBefore_ok spL3_ok
theorem GlassBest_c {B : List Blank} {T : List Span} {sB sT : TV} (hB : IsRow Blank.cs sB B) (hT : IsRow Span.cs sT T) (hlB : B.length ≤ 5864062014806) (hlT : T.length ≤ 9000000000000) (w : Want) (o : Ob) : PCalls Try.prog 10 [.agg [sB, sT], w.t, o.t] (.bool true) := by
  have rB := rowB_is hB
  have rT := rowT_is hT
  unfold rowL at rB rT
  refine pcalls_by Try.mixes spO1_ok (fn := Try.f10) Try.func10 rfl (by kernel_rfl) (by show 3 ≤ _; decide) ?_
  rcases (Bool.eq_false_or_eq_true (stockOk B T)).symm with hs | hs
  · have bp : bestP B T w = (bst0.o, 0, 40) := by unfold bestP; rw [if_pos hs]
    have ge : goodE B T w o = (false, 40) := by unfold goodE askedG; rw [hs]; rfl
    simp (decide := true) (maxSteps := 4000000) only [go_sem, Nat.reduceAdd, Nat.reduceSub, Nat.reduceMul, Nat.reduceDiv, Nat.reduceMod, Nat.reduceLT, Nat.reduceLeDiff, Nat.reduceEqDiff, Nat.reduceBEq, Nat.reduceBNe, Nat.reduceGT, Int.reduceAdd, Int.reduceSub, Int.reduceMul, Int.reduceNeg, Int.reduceLT, Int.reduceLE, Int.reduceEq, Int.reduceNe, Int.reduceBEq, Int.reduceBNe, Int.reduceToNat, Int.reduceGT, Int.reduceGE, ↓reduceIte, decide_true, decide_false, eq_self, Nat.mul_one, Nat.zero_mul, Nat.one_mul, Int.le_refl, Nat.le_refl, Int.cast_ofNat_Int, Try.f10, Ob.t, Ob.cs, Want.t, rB, rT, hlB, hlT, bp, ge, bst0]
  · rcases (Bool.eq_false_or_eq_true (wantOk w)).symm with hw | hw
    · have bp : bestP B T w = (bst0.o, 0, 43) := by unfold bestP; rw [if_neg (by rw [hs]; decide), if_pos hw]
      have ge : goodE B T w o = (false, 43) := by unfold goodE askedG; rw [hs, hw]; rfl
      simp (decide := true) (maxSteps := 4000000) only [go_sem, Nat.reduceAdd, Nat.reduceSub, Nat.reduceMul, Nat.reduceDiv, Nat.reduceMod, Nat.reduceLT, Nat.reduceLeDiff, Nat.reduceEqDiff, Nat.reduceBEq, Nat.reduceBNe, Nat.reduceGT, Int.reduceAdd, Int.reduceSub, Int.reduceMul, Int.reduceNeg, Int.reduceLT, Int.reduceLE, Int.reduceEq, Int.reduceNe, Int.reduceBEq, Int.reduceBNe, Int.reduceToNat, Int.reduceGT, Int.reduceGE, ↓reduceIte, decide_true, decide_false, eq_self, Nat.mul_one, Nat.zero_mul, Nat.one_mul, Int.le_refl, Nat.le_refl, Int.cast_ofNat_Int, Try.f10, Ob.t, Ob.cs, Want.t, rB, rT, hlB, hlT, bp, ge, bst0]
    · have gs : ∀ o, goodE B T w o = if obOk B.length T.length o = true then (goodB (spansP B T o) w, 0) else (false, 41) := by
        intro o
        unfold goodE askedG
        rw [hs, hw]
        cases obOk B.length T.length o <;> simp
      rcases best_says hs hw with ⟨bp, hno⟩ | ⟨b, bp, hb, hgb, hbe⟩
      · rcases (Bool.eq_false_or_eq_true (obOk B.length T.length o)).symm with ho | ho
        · have ge := gs o
          rw [if_neg (by rw [ho]; decide)] at ge
          simp (decide := true) (maxSteps := 4000000) only [go_sem, Nat.reduceAdd, Nat.reduceSub, Nat.reduceMul, Nat.reduceDiv, Nat.reduceMod, Nat.reduceLT, Nat.reduceLeDiff, Nat.reduceEqDiff, Nat.reduceBEq, Nat.reduceBNe, Nat.reduceGT, Int.reduceAdd, Int.reduceSub, Int.reduceMul, Int.reduceNeg, Int.reduceLT, Int.reduceLE, Int.reduceEq, Int.reduceNe, Int.reduceBEq, Int.reduceBNe, Int.reduceToNat, Int.reduceGT, Int.reduceGE, ↓reduceIte, decide_true, decide_false, eq_self, Nat.mul_one, Nat.zero_mul, Nat.one_mul, Int.le_refl, Nat.le_refl, Int.cast_ofNat_Int, Try.f10, Ob.t, Ob.cs, Want.t, rB, rT, hlB, hlT, bp, ge, bst0]
        · have ge := gs o
          rw [if_pos ho, hno o ho] at ge
          simp (decide := true) (maxSteps := 4000000) only [go_sem, Nat.reduceAdd, Nat.reduceSub, Nat.reduceMul, Nat.reduceDiv, Nat.reduceMod, Nat.reduceLT, Nat.reduceLeDiff, Nat.reduceEqDiff, Nat.reduceBEq, Nat.reduceBNe, Nat.reduceGT, Int.reduceAdd, Int.reduceSub, Int.reduceMul, Int.reduceNeg, Int.reduceLT, Int.reduceLE, Int.reduceEq, Int.reduceNe, Int.reduceBEq, Int.reduceBNe, Int.reduceToNat, Int.reduceGT, Int.reduceGE, ↓reduceIte, decide_true, decide_false, eq_self, Nat.mul_one, Nat.zero_mul, Nat.one_mul, Int.le_refl, Nat.le_refl, Int.cast_ofNat_Int, Try.f10, Ob.t, Ob.cs, Want.t, rB, rT, hlB, hlT, bp, ge, bst0]
      · have hs' := stockOk_iff.1 hs
        have hb' := obOk_iff.1 hb
        obtain ⟨fB, rfl⟩ := hB.ne (by omega)
        obtain ⟨fT, rfl⟩ := hT.ne (by omega)
        have ges := gs b
        rw [if_pos hb, hgb] at ges
        have sp : ∀ o, obOk B.length T.length o = true → spansE B T o = (spansP B T o, 0) := fun o ho => by unfold spansE; rw [if_neg (by rw [hs]; decide), if_neg (by rw [ho]; decide)]
        have sb := sp b hb
        have bb := spansP_bound hs hb
        have wb1 : IntKind.i64.wrap (0 - (spansP B T b).c.lo) = -(spansP B T b).c.lo := by rw [wrap_in (by omega) (by omega)]; omega
        have wb2 : IntKind.i64.wrap (0 - (spansP B T b).c.hi) = -(spansP B T b).c.hi := by rw [wrap_in (by omega) (by omega)]; omega
        have wb := worst_abs (c := (spansP B T b).c) (by omega)
        have wl : IntKind.i64.wrap ((B.length : Int) - 1) = (B.length : Int) - 1 := wrap_in (by omega) (by omega)
        have i1 : inB b.f 0 ((B.length : Int) - 1) = true := inB_iff.2 hb'.1
        have i2 : inB b.s 0 ((B.length : Int) - 1) = true := inB_iff.2 hb'.2.1
        have hk : ∀ q, obOk B.length T.length q = true → ∃ x y, (q.f = (x : Nat) ∧ B[x]? = some (blankAt B q.f)) ∧ (q.s = (y : Nat) ∧ B[y]? = some (blankAt B q.s)) := by
          intro q hq
          have hq' := obOk_iff.1 hq
          obtain ⟨x, hx⟩ := Int.eq_ofNat_of_zero_le hq'.1.1
          obtain ⟨y, hy⟩ := Int.eq_ofNat_of_zero_le hq'.2.1.1
          obtain ⟨p, hp⟩ := get_lt (l := B) (k := x) (by omega)
          obtain ⟨r, hr⟩ := get_lt (l := B) (k := y) (by omega)
          exact ⟨x, y, ⟨hx, by rw [hx, blankAt_eq hp]; exact hp⟩, hy, by rw [hy, blankAt_eq hr]; exact hr⟩
        rcases (Bool.eq_false_or_eq_true (obOk B.length T.length o && goodB (spansP B T o) w)).symm with hg | hg
        · have ge := gs o
          have ge1 : (goodE B T w o).1 = false := by
            rw [ge]
            cases ho : obOk B.length T.length o with
            | false => rfl
            | true => rw [ho, Bool.true_and] at hg; simpa using hg
          simp (decide := true) (maxSteps := 4000000) only [go_sem, Nat.reduceAdd, Nat.reduceSub, Nat.reduceMul, Nat.reduceDiv, Nat.reduceMod, Nat.reduceLT, Nat.reduceLeDiff, Nat.reduceEqDiff, Nat.reduceBEq, Nat.reduceBNe, Nat.reduceGT, Int.reduceAdd, Int.reduceSub, Int.reduceMul, Int.reduceNeg, Int.reduceLT, Int.reduceLE, Int.reduceEq, Int.reduceNe, Int.reduceBEq, Int.reduceBNe, Int.reduceToNat, Int.reduceGT, Int.reduceGE, ↓reduceIte, decide_true, decide_false, eq_self, Nat.mul_one, Nat.zero_mul, Nat.one_mul, Int.le_refl, Nat.le_refl, Int.cast_ofNat_Int, Try.f10, Ob.t, Ob.cs, Want.t, rB, rT, hlB, hlT, bp, ge1, ges, sb, wb1, wb2, wb, wl, i1, i2, Span.t, Span.cs, bne_self_eq_false]
        · rw [Bool.and_eq_true] at hg
          obtain ⟨ho, hg⟩ := hg
          have ho' := obOk_iff.1 ho
          have ge := gs o
          rw [if_pos ho, hg] at ge
          have so := sp o ho
          have bo := spansP_bound hs ho
          have wo1 : IntKind.i64.wrap (0 - (spansP B T o).c.lo) = -(spansP B T o).c.lo := by rw [wrap_in (by omega) (by omega)]; omega
          have wo2 : IntKind.i64.wrap (0 - (spansP B T o).c.hi) = -(spansP B T o).c.hi := by rw [wrap_in (by omega) (by omega)]; omega
          have wo := worst_abs (c := (spansP B T o).c) (by omega)
          have i3 : inB o.f 0 ((B.length : Int) - 1) = true := inB_iff.2 ho'.1
          have i4 : inB o.s 0 ((B.length : Int) - 1) = true := inB_iff.2 ho'.2.1
          have hbf := hbe o ho hg
          unfold obKey priceO at hbf
          obtain ⟨x1, y1, ⟨ex1, gx1⟩, ey1, gy1⟩ := hk b hb
          obtain ⟨x2, y2, ⟨ex2, gx2⟩, ey2, gy2⟩ := hk o ho
          have d1 := flat_at Blank.cs (n := 5) (fun _ => rfl) gx1
          have d2 := flat_at Blank.cs (n := 5) (fun _ => rfl) gy1
          have d3 := flat_at Blank.cs (n := 5) (fun _ => rfl) gx2
          have d4 := flat_at Blank.cs (n := 5) (fun _ => rfl) gy2
          have z1 := hs'.2.2.1 _ (List.mem_of_getElem? gx1)
          have z2 := hs'.2.2.1 _ (List.mem_of_getElem? gy1)
          have z3 := hs'.2.2.1 _ (List.mem_of_getElem? gx2)
          have z4 := hs'.2.2.1 _ (List.mem_of_getElem? gy2)
          have p1 : IntKind.i64.wrap ((blankAt B b.f).pr + (blankAt B b.s).pr) = (blankAt B b.f).pr + (blankAt B b.s).pr := wrap_in (by omega) (by omega)
          have p2 : IntKind.i64.wrap ((blankAt B o.f).pr + (blankAt B o.s).pr) = (blankAt B o.f).pr + (blankAt B o.s).pr := wrap_in (by omega) (by omega)
          have l1 : (x1 : Int) < B.length := by omega
          have l2 : (y1 : Int) < B.length := by omega
          have l3 : (x2 : Int) < B.length := by omega
          have l4 : (y2 : Int) < B.length := by omega
          obtain ⟨⟨Pb, Cb⟩, hSb⟩ : ∃ S, spansP B T b = S := ⟨_, rfl⟩
          obtain ⟨⟨Po, Co⟩, hSo⟩ : ∃ S, spansP B T o = S := ⟨_, rfl⟩
          rw [hSb] at bp sb wb1 wb2 wb hbf
          rw [hSo] at so wo1 wo2 wo hbf
          simp only at bp sb wb1 wb2 wb hbf so wo1 wo2 wo
          clear hSb hSo
          generalize blankAt B b.f = P1 at d1 p1 hbf
          generalize blankAt B b.s = P2 at d2 p1 hbf
          generalize blankAt B o.f = P3 at d3 p2 hbf
          generalize blankAt B o.s = P4 at d4 p2 hbf
          obtain ⟨bf, bs, ba, bb', bc⟩ := b
          obtain ⟨of, os, oa, ob, oc⟩ := o
          simp only at ex1 ey1 ex2 ey2 hbf i1 i2 i3 i4
          subst ex1; subst ey1; subst ex2; subst ey2
          simp (decide := true) (maxSteps := 4000000) only [go_sem, Nat.reduceAdd, Nat.reduceSub, Nat.reduceMul, Nat.reduceDiv, Nat.reduceMod, Nat.reduceLT, Nat.reduceLeDiff, Nat.reduceEqDiff, Nat.reduceBEq, Nat.reduceBNe, Nat.reduceGT, Int.reduceAdd, Int.reduceSub, Int.reduceMul, Int.reduceNeg, Int.reduceLT, Int.reduceLE, Int.reduceEq, Int.reduceNe, Int.reduceBEq, Int.reduceBNe, Int.reduceToNat, Int.reduceGT, Int.reduceGE, ↓reduceIte, decide_true, decide_false, eq_self, Nat.mul_one, Nat.zero_mul, Nat.one_mul, Int.le_refl, Nat.le_refl, Int.cast_ofNat_Int, Try.f10, Ob.t, Ob.cs, Want.t, rB, rT, hlB, hlT, bp, ge, ges, sb, so, wb1, wb2, wb, wo1, wo2, wo, wl, i1, i2, i3, i4, Span.t, Span.cs, bne_self_eq_false, l1, l2, l3, l4, d1, d2, d3, d4, Blank.cs, p1, p2, Int.toNat_natCast, unI, Option.map_some, List.length_cons, List.length_nil, hbf]
end Go.Proofs.Ytcjcnmpecmbdeaa
