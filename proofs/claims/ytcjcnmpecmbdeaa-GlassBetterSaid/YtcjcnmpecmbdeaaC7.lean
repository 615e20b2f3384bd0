/- What the claim leans on, text 7. -/
import Derived.Test.YtcjcnmpecmbdeaaC6
set_option linter.unusedSimpArgs false
set_option linter.unusedVariables false

/- Part Gro. -/
namespace Go.Oc
open Go Go.Pm
theorem flatP_len {α : Type} (c : α → List TV) {n : Nat} (hc : ∀ x, (c x).length = n) (l : List α) : ((l.flatMap c).map PV.t).length = l.length * n := by
  rw [List.length_map]
  induction l with
  | nil => simp
  | cons x l ih => rw [List.flatMap_cons, List.length_append, ih, hc, List.length_cons, Nat.add_mul]; omega
theorem flatP_get {α : Type} (c : α → List TV) {n : Nat} (hc : ∀ x, (c x).length = n) {l : List α} {k : Nat} {x : α} (hx : l[k]? = some x) : (((l.flatMap c).map PV.t).drop (k * n)).take n = (c x).map PV.t := by
  rw [← List.map_drop, flat_at c hc hx, List.map_append, List.take_left' (by rw [List.length_map, hc])]
theorem flatP_set {α : Type} (c : α → List TV) {n : Nat} (hc : ∀ x, (c x).length = n) : ∀ {l : List α} {k : Nat} (y : α), k < l.length → ((l.flatMap c).map PV.t).take (k * n) ++ (c y).map PV.t ++ ((l.flatMap c).map PV.t).drop (k * n + n) = ((l.set k y).flatMap c).map PV.t
  | [], k, y, h => by simp at h
  | x :: l, 0, y, h => by
    rw [List.flatMap_cons, List.map_append, Nat.zero_mul, List.take_zero, List.nil_append, Nat.zero_add, List.drop_left' (by rw [List.length_map, hc]), List.set_cons_zero, List.flatMap_cons, List.map_append]
  | x :: l, k + 1, y, h => by
    have ih := flatP_set c hc (l := l) (k := k) y (by simpa using h)
    have hl : ((c x).map PV.t).length = n := by rw [List.length_map, hc]
    rw [List.flatMap_cons, List.map_append, List.set_cons_succ, List.flatMap_cons, List.map_append, ← ih, show (k + 1) * n = n + k * n by rw [Nat.add_mul]; omega, List.take_append, List.drop_append]
    rw [List.take_of_length_le (by omega), List.drop_of_length_le (by omega), hl, show n + k * n - n = k * n by omega, show n + k * n + n - n = k * n + n by omega, List.nil_append]
    simp only [List.append_assoc]
theorem flatP_at {α : Type} (c : α → List TV) {n : Nat} (hc : ∀ x, (c x).length = n) {l : List α} {k : Nat} {x : α} (hx : l[k]? = some x) {j : Nat} (hj : j < n) : ((l.flatMap c).map PV.t)[k * n + j]? = ((c x)[j]?).map PV.t := by
  have h := flat_at c hc hx
  rw [List.getElem?_map, ← List.getElem?_drop, h, List.getElem?_append_left (by rw [hc]; exact hj)]
/-- One span within another one. -/
def Sub (a b : Span) : Prop := b.lo ≤ a.lo ∧ a.lo ≤ a.hi ∧ a.hi ≤ b.hi
theorem sub_self {a : Span} (h : a.lo ≤ a.hi) : Sub a a := ⟨Int.le_refl _, h, Int.le_refl _⟩
theorem corners_sub {s1 s2 s1' s2' : Span} {T T' : List Span} (o : Ob) (h1 : Sub s1' s1) (h2 : Sub s2' s2) (ha : Sub (toolAt T' o.a) (toolAt T o.a)) (hb : Sub (toolAt T' o.b) (toolAt T o.b)) (hc : Sub (toolAt T' o.c) (toolAt T o.c)) :
    (minmax (corners s1 s2 (toolAt T o.a) (toolAt T o.b) (toolAt T o.c) o 32)).lo ≤ (minmax (corners s1' s2' (toolAt T' o.a) (toolAt T' o.b) (toolAt T' o.c) o 32)).lo ∧
    (minmax (corners s1' s2' (toolAt T' o.a) (toolAt T' o.b) (toolAt T' o.c) o 32)).hi ≤ (minmax (corners s1 s2 (toolAt T o.a) (toolAt T o.b) (toolAt T o.c) o 32)).hi := by
  obtain ⟨m1, m2⟩ := minmax_mem (corners_ne s1' s2' (toolAt T' o.a) (toolAt T' o.b) (toolAt T' o.c) o)
  have key : ∀ v, v ∈ corners s1' s2' (toolAt T' o.a) (toolAt T' o.b) (toolAt T' o.c) o 32 → (minmax (corners s1 s2 (toolAt T o.a) (toolAt T o.b) (toolAt T o.c) o 32)).lo ≤ v ∧ v ≤ (minmax (corners s1 s2 (toolAt T o.a) (toolAt T o.b) (toolAt T o.c) o 32)).hi := by
    intro v hv
    obtain ⟨hi, hj, g, rfl⟩ := (corner_iff s1' s2' T' o v).1 hv
    unfold Sub at h1 h2 ha hb hc
    have e1 := endS_mem h1.2.1 hi
    have e2 := endS_mem h2.2.1 hj
    have e3 := endS_mem ha.2.1 (g o.a)
    have e4 := endS_mem hb.2.1 (g o.b)
    have e5 := endS_mem hc.2.1 (g o.c)
    exact pw_between (T := T) (o := o) (g := fun t => endS (toolAt T' t) (g t)) (by omega) (by omega) (by omega) (by omega) (by omega)
  exact ⟨(key _ m1).1, (key _ m2).2⟩
/-- Where everything is known better, power and colour are. -/
theorem spans_sub {B B' : List Blank} {T T' : List Span} {o : Ob} (hf : Sub (blankAt B' o.f).i (blankAt B o.f).i ∧ Sub (blankAt B' o.f).c (blankAt B o.f).c) (hs : Sub (blankAt B' o.s).i (blankAt B o.s).i ∧ Sub (blankAt B' o.s).c (blankAt B o.s).c)
    (ha : Sub (toolAt T' o.a) (toolAt T o.a)) (hb : Sub (toolAt T' o.b) (toolAt T o.b)) (hc : Sub (toolAt T' o.c) (toolAt T o.c)) {w : Want} (hg : goodB (spansP B T o) w = true) : goodB (spansP B' T' o) w = true ∧ worstS (spansP B' T' o).c ≤ worstS (spansP B T o).c := by
  have p := corners_sub (T := T) (T' := T') o hf.1 hs.1 ha hb hc
  have c := corners_sub (T := T) (T' := T') o hf.2 hs.2 ha hb hc
  unfold goodB worstS spansP at hg ⊢
  simp only [Bool.and_eq_true, decide_eq_true_eq] at hg ⊢
  omega
theorem ValO_monoG {G G' : Ob → Bool} {p q : Nat → Bool} (hG : ∀ o, G o = true → G' o = true) (h : ∀ i, p i = true → q i = true) {l : List Ob} (hl : ValO G p l) : ValO G' q l :=
  ⟨fun o ho => by obtain ⟨a, b, c, d, e, f⟩ := hl.1 o ho; exact ⟨hG o a, b, c, d, h _ e, h _ f⟩, hl.2⟩
/-- What is better leaves no worse best objective, and not fewer at once. -/
theorem bet {B B' : List Blank} {T T' : List Span} {w w' : Want} (hs : stockOk B T = true) (hw : wantOk w = true) (hs' : stockOk B' T' = true) (hw' : wantOk w' = true) (hn : B.length ≤ B'.length)
    (hg : ∀ o, goodO B T w o = true → goodO B' T' w' o = true ∧ worstS (spansP B' T' o).c ≤ worstS (spansP B T o).c) :
    ∃ l l' b n e b' m g, mostP B T w = (l, 0) ∧ mostP B' T' w' = (l', 0) ∧ bestP B T w = (b, n, e) ∧ bestP B' T' w' = (b', m, g) ∧ l.length ≤ l'.length ∧ (e = 4 ∨ (e = 0 ∧ g = 0 ∧ m ≤ n)) := by
  obtain ⟨l, m1, v1, _, _⟩ := most_says hs hw
  obtain ⟨l', m2, _, _, x2⟩ := most_says hs' hw'
  have hlen := x2 l (ValO_monoG (fun o ho => (hg o ho).1) (fun i hi => by rw [free_all] at hi ⊢; omega) v1)
  refine ⟨l, l', (bestP B T w).1, (bestP B T w).2.1, (bestP B T w).2.2, (bestP B' T' w').1, (bestP B' T' w').2.1, (bestP B' T' w').2.2, m1, m2, rfl, rfl, hlen, ?_⟩
  rcases best_says hs hw with ⟨e1, _⟩ | ⟨b, e1, b1, b2, _⟩
  · left; rw [e1]
  · right
    have gb := hg b (by unfold goodO; rw [b1, b2]; rfl)
    have gb1 := gb.1
    unfold goodO at gb1
    rw [Bool.and_eq_true] at gb1
    rcases best_says hs' hw' with ⟨_, hno⟩ | ⟨b', e2, c1, c2, c3⟩
    · rw [hno b gb1.1] at gb1; cases gb1.2
    · refine ⟨by rw [e1], by rw [e2], ?_⟩
      rw [e1, e2]
      simp only
      have := c3 b gb1.1 gb1.2
      rw [← Bool.not_eq_true, key_iff] at this
      have gw := gb.2
      omega
theorem blank_sub {B : List Blank} {T : List Span} (hs : stockOk B T = true) {i : Int} (h0 : 0 ≤ i) (h1 : i ≤ (B.length : Int) - 1) : Sub (blankAt B i).i (blankAt B i).i ∧ Sub (blankAt B i).c (blankAt B i).c := by
  have := blank_ok hs h0 (by omega)
  exact ⟨sub_self this.1.2.1, sub_self this.2.1.2.1⟩
theorem tool_sub {B : List Blank} {T : List Span} (hs : stockOk B T = true) {i : Int} (h0 : 0 ≤ i) (h1 : i ≤ (T.length : Int) - 1) : Sub (toolAt T i) (toolAt T i) := by
  have := tool_ok hs h0 (by omega)
  exact sub_self this.2.1
theorem blankAt_set {B : List Blank} {k : Nat} (hk : k < B.length) (y : Blank) {i : Int} (h0 : 0 ≤ i) : blankAt (B.set k y) i = if i = k then y else blankAt B i := by
  unfold blankAt
  rw [List.getD_eq_getElem?_getD, List.getD_eq_getElem?_getD, List.getElem?_set]
  by_cases h : i = k
  · rw [if_pos h, if_pos (by omega), if_pos (by omega)]; rfl
  · rw [if_neg h, if_neg (by omega)]
theorem toolAt_set {T : List Span} {k : Nat} (hk : k < T.length) (y : Span) {i : Int} (h0 : 0 ≤ i) : toolAt (T.set k y) i = if i = k then y else toolAt T i := by
  unfold toolAt
  rw [List.getD_eq_getElem?_getD, List.getD_eq_getElem?_getD, List.getElem?_set]
  by_cases h : i = k
  · rw [if_pos h, if_pos (by omega), if_pos (by omega)]; rfl
  · rw [if_neg h, if_neg (by omega)]
theorem goodO_iff {B : List Blank} {T : List Span} {w : Want} {o : Ob} : goodO B T w o = true ↔ obOk B.length T.length o = true ∧ goodB (spansP B T o) w = true := by unfold goodO; rw [Bool.and_eq_true]
/-- A blank that is known better. -/
theorem bet_blank {B : List Blank} {T : List Span} {w : Want} (hs : stockOk B T = true) (hw : wantOk w = true) {k : Nat} {x : Blank} (hx : B[k]? = some x) {n c : Int} (hn : x.i.lo ≤ n ∧ n ≤ x.i.hi) (hc : x.c.lo ≤ c ∧ c ≤ x.c.hi) :
    stockOk (B.set k ⟨⟨n, x.i.hi⟩, ⟨x.c.lo, c⟩, x.pr⟩) T = true ∧ ∀ o, goodO B T w o = true → goodO (B.set k ⟨⟨n, x.i.hi⟩, ⟨x.c.lo, c⟩, x.pr⟩) T w o = true ∧ worstS (spansP (B.set k ⟨⟨n, x.i.hi⟩, ⟨x.c.lo, c⟩, x.pr⟩) T o).c ≤ worstS (spansP B T o).c := by
  have hk : k < B.length := (List.getElem?_eq_some_iff.1 hx).1
  have hb := (stockOk_iff.1 hs).2.2.1 x (List.mem_of_getElem? hx)
  refine ⟨?_, fun o ho => ?_⟩
  · rw [stockOk_iff] at hs ⊢
    obtain ⟨a, b, cc, d⟩ := hs
    rw [List.length_set]
    refine ⟨a, b, fun y hy => ?_, d⟩
    rcases List.mem_or_eq_of_mem_set hy with h | h
    · exact cc y h
    · subst h; simp only; omega
  · rw [goodO_iff] at ho ⊢
    obtain ⟨h1, h2⟩ := ho
    have h' := obOk_iff.1 h1
    have key : ∀ i : Int, 0 ≤ i → i ≤ (B.length : Int) - 1 → Sub (blankAt (B.set k ⟨⟨n, x.i.hi⟩, ⟨x.c.lo, c⟩, x.pr⟩) i).i (blankAt B i).i ∧ Sub (blankAt (B.set k ⟨⟨n, x.i.hi⟩, ⟨x.c.lo, c⟩, x.pr⟩) i).c (blankAt B i).c := by
      intro i h0 h1
      rw [blankAt_set hk _ h0]
      split
      · rename_i e
        subst e
        rw [blankAt_eq hx]
        unfold Sub
        simp only
        omega
      · exact blank_sub hs h0 h1
    have r := spans_sub (B := B) (T := T) (T' := T) (o := o) (key _ h'.1.1 h'.1.2) (key _ h'.2.1.1 h'.2.1.2) (tool_sub hs h'.2.2.2.1.1 h'.2.2.2.1.2) (tool_sub hs h'.2.2.2.2.1.1 h'.2.2.2.2.1.2) (tool_sub hs h'.2.2.2.2.2.1 h'.2.2.2.2.2.2) h2
    exact ⟨⟨by rw [List.length_set]; exact h1, r.1⟩, r.2⟩
/-- A tool that is known better. -/
theorem bet_tool {B : List Blank} {T : List Span} {w : Want} (hs : stockOk B T = true) (hw : wantOk w = true) {k : Nat} {x : Span} (hx : T[k]? = some x) {n : Int} (hn : x.lo ≤ n ∧ n ≤ x.hi) :
    stockOk B (T.set k ⟨n, x.hi⟩) = true ∧ ∀ o, goodO B T w o = true → goodO B (T.set k ⟨n, x.hi⟩) w o = true ∧ worstS (spansP B (T.set k ⟨n, x.hi⟩) o).c ≤ worstS (spansP B T o).c := by
  have hk : k < T.length := (List.getElem?_eq_some_iff.1 hx).1
  have hb := (stockOk_iff.1 hs).2.2.2 x (List.mem_of_getElem? hx)
  refine ⟨?_, fun o ho => ?_⟩
  · rw [stockOk_iff] at hs ⊢
    obtain ⟨a, b, cc, d⟩ := hs
    rw [List.length_set]
    refine ⟨a, b, cc, fun y hy => ?_⟩
    rcases List.mem_or_eq_of_mem_set hy with h | h
    · exact d y h
    · subst h; simp only; omega
  · rw [goodO_iff] at ho ⊢
    obtain ⟨h1, h2⟩ := ho
    have h' := obOk_iff.1 h1
    have key : ∀ i : Int, 0 ≤ i → i ≤ (T.length : Int) - 1 → Sub (toolAt (T.set k ⟨n, x.hi⟩) i) (toolAt T i) := by
      intro i h0 h1
      rw [toolAt_set hk _ h0]
      split
      · rename_i e
        subst e
        rw [toolAt_eq hx]
        unfold Sub
        simp only
        omega
      · exact tool_sub hs h0 h1
    have r := spans_sub (B := B) (B' := B) (T := T) (o := o) (blank_sub hs h'.1.1 h'.1.2) (blank_sub hs h'.2.1.1 h'.2.1.2) (key _ h'.2.2.2.1.1 h'.2.2.2.1.2) (key _ h'.2.2.2.2.1.1 h'.2.2.2.2.1.2) (key _ h'.2.2.2.2.2.1 h'.2.2.2.2.2.2) h2
    exact ⟨⟨by rw [List.length_set]; exact h1, r.1⟩, r.2⟩
/-- A blank more. -/
theorem bet_more {B : List Blank} {T : List Span} {w : Want} (hs : stockOk B T = true) (hw : wantOk w = true) (h8 : B.length < 8) {x : Blank} (hx : x ∈ B) {p : Int} (hp : 0 ≤ p ∧ p ≤ 1000000) :
    stockOk (B ++ [⟨x.i, x.c, p⟩]) T = true ∧ ∀ o, goodO B T w o = true → goodO (B ++ [⟨x.i, x.c, p⟩]) T w o = true ∧ worstS (spansP (B ++ [⟨x.i, x.c, p⟩]) T o).c ≤ worstS (spansP B T o).c := by
  have hb := (stockOk_iff.1 hs).2.2.1 x hx
  refine ⟨?_, fun o ho => ?_⟩
  · rw [stockOk_iff] at hs ⊢
    obtain ⟨a, b, cc, d⟩ := hs
    rw [List.length_append, List.length_cons, List.length_nil]
    refine ⟨by omega, b, fun y hy => ?_, d⟩
    rcases List.mem_append.1 hy with h | h
    · exact cc y h
    · rw [List.mem_singleton] at h; subst h; simp only; omega
  · rw [goodO_iff] at ho ⊢
    obtain ⟨h1, h2⟩ := ho
    have h' := obOk_iff.1 h1
    have key : ∀ i : Int, 0 ≤ i → i ≤ (B.length : Int) - 1 → blankAt (B ++ [⟨x.i, x.c, p⟩]) i = blankAt B i := by
      intro i h0 h1
      unfold blankAt
      rw [List.getD_eq_getElem?_getD, List.getD_eq_getElem?_getD, List.getElem?_append_left (by omega)]
    have e : spansP (B ++ [⟨x.i, x.c, p⟩]) T o = spansP B T o := by
      unfold spansP
      rw [key _ h'.1.1 h'.1.2, key _ h'.2.1.1 h'.2.1.2]
    rw [e]
    refine ⟨⟨?_, h2⟩, Int.le_refl _⟩
    rw [List.length_append, List.length_cons, List.length_nil, obOk_iff]
    omega
/-- A wider wish. -/
theorem bet_want {B : List Blank} {T : List Span} {w : Want} (hs : stockOk B T = true) (hw : wantOk w = true) {p c : Int} (hp : 0 ≤ p) (hc : 0 ≤ c) :
    wantOk ⟨⟨max (-400000000) (w.p.lo - p), w.p.hi⟩, min 400000000 (w.c + c)⟩ = true ∧ ∀ o, goodO B T w o = true → goodO B T ⟨⟨max (-400000000) (w.p.lo - p), w.p.hi⟩, min 400000000 (w.c + c)⟩ o = true ∧ worstS (spansP B T o).c ≤ worstS (spansP B T o).c := by
  constructor
  · simp only [wantOk, spannedB, inB, Bool.and_eq_true, decide_eq_true_eq] at hw ⊢
    omega
  · intro o ho
    rw [goodO_iff] at ho ⊢
    obtain ⟨h1, h2⟩ := ho
    have hb := spansP_bound hs h1
    refine ⟨⟨h1, ?_⟩, Int.le_refl _⟩
    unfold goodB worstS at h2 ⊢
    simp only [Bool.and_eq_true, decide_eq_true_eq] at h2 ⊢
    omega
end Go.Oc

/- Part Gr2. -/
namespace Go.Proofs.Ytcjcnmpecmbdeaa
open Go.RowKit Go.Pm Go.Oc
set_option maxRecDepth 100000
set_option linter.unusedVariables false
set_option maxHeartbeats 8000000

noncomputable def spGb0 : Pm.Spec := spN2.one 50 goTo
@[go_sem] theorem spGb0_p (f : FuncId) (xs : List TV) : spGb0.p f xs = Pm.Spec.p (spN2.one 50 goTo) f xs := rfl
@[go_sem] theorem spGb0_h (f : FuncId) (ps : List PV) (hl : List PO) : spGb0.h f ps hl = Pm.Spec.h (spN2.one 50 goTo) f ps hl := rfl
@[go_sem] theorem spGb0_fz (f : FuncId) : spGb0.fz f = Pm.Spec.fz (spN2.one 50 goTo) f := rfl
@[go_sem] theorem spGb0_fr (f : FuncId) : spGb0.fr f = Pm.Spec.fr (spN2.one 50 goTo) f := rfl
@[go_sem] theorem spGb0_mu (t : TypeId) : spGb0.mu t = Pm.Spec.mu (spN2.one 50 goTo) t := rfl
theorem spGb0_ok : SpecOk Try.prog spGb0 := Spec.one_ok goTo_ok spN2_ok
noncomputable def spGb1 : Pm.Spec := { spGb0 with mu := fun t => t == 22 || t == 23, fr := fun f => f == 25 || f == 27 }
theorem spGb1_ok : SpecOk Try.prog spGb1 := ⟨spGb0_ok.1, spGb0_ok.2⟩
@[go_sem] theorem spGb1_p (f : FuncId) (xs : List TV) : spGb1.p f xs = spGb0.p f xs := rfl
@[go_sem] theorem spGb1_h (f : FuncId) (ps : List PV) (hl : List PO) : spGb1.h f ps hl = spGb0.h f ps hl := rfl
@[go_sem] theorem spGb1_fz (f : FuncId) : spGb1.fz f = spGb0.fz f := rfl
@[go_sem] theorem spGb1_fr (f : FuncId) : spGb1.fr f = (f == 25 || f == 27) := rfl
@[go_sem] theorem spGb1_mu (t : TypeId) : spGb1.mu t = (t == 22 || t == 23) := rfl
attribute [local go_sem] popM
theorem idsG_t : ∀ xs : List TV, List.flatMap idsG (List.map PV.t xs) = []
  | [] => rfl
  | x :: xs => by rw [List.map_cons, List.flatMap_cons, idsG_t xs]; rfl
theorem thaw_t (h : Hp) : ∀ xs : List TV, allO (List.map (thawC h) (List.map PV.t xs)) = some xs
  | [] => rfl
  | x :: xs => by simp only [List.map_cons, allO, thaw_t h xs, thawC, PV.toT, Option.map_some]
theorem rowJ_cases (l : List Ob) : (rowJ l = .nilSl ∧ l.length = 0) ∨ (rowJ l = .sl (l.flatMap Ob.cs) l.length (l.length == 1) ∧ 0 < l.length) := by
  by_cases h : l.length = 0
  · left; unfold rowJ; rw [if_pos h]; exact ⟨rfl, h⟩
  · right; unfold rowJ; rw [if_neg h]; exact ⟨rfl, by omega⟩
theorem GlassBetter_c {B : List Blank} {T : List Span} {sB sT : TV} (hB : IsRow Blank.cs sB B) (hT : IsRow Span.cs sT T) (hlB : B.length ≤ 5864062014806) (hlT : T.length ≤ 9000000000000) (w : Want) {bits : List Int} {sb : TV} (hb : IsRow ic sb bits) (hlb : bits.length ≤ 9223372036854775806) : PCalls Try.prog 13 [.agg [sB, sT], w.t, sb] (.bool true) := by
  have rB := rowB_is hB
  have rT := rowT_is hT
  have rI := rowI_is hb
  unfold rowL at rB rT rI
  have er : rowJ [] = .nilSl := rfl
  refine pcalls_by Try.mixes spGb1_ok (fn := Try.f13) Try.func13 rfl (by kernel_rfl) (by show 3 ≤ _; decide) ?_
  rcases (Bool.eq_false_or_eq_true (stockOk B T)).symm with hs | hs
  · have mp : mostP B T w = ([], 40) := by unfold mostP; rw [if_pos hs]
    have bp : bestP B T w = (bst0.o, 0, 40) := by unfold bestP; rw [if_pos hs]
    rcases hB with ⟨rfl, rfl⟩ | ⟨fB, rfl⟩ <;> rcases hT with ⟨rfl, rfl⟩ | ⟨fT, rfl⟩ <;> simp (decide := true) (maxSteps := 4000000) only [go_sem, Nat.reduceAdd, Nat.reduceSub, Nat.reduceMul, Nat.reduceDiv, Nat.reduceMod, Nat.reduceLT, Nat.reduceLeDiff, Nat.reduceEqDiff, Nat.reduceBEq, Nat.reduceBNe, Nat.reduceGT, Int.reduceAdd, Int.reduceSub, Int.reduceMul, Int.reduceNeg, Int.reduceLT, Int.reduceLE, Int.reduceEq, Int.reduceNe, Int.reduceBEq, Int.reduceBNe, Int.reduceToNat, Int.reduceGT, Int.reduceGE, ↓reduceIte, decide_true, decide_false, eq_self, Nat.mul_one, Nat.zero_mul, Nat.one_mul, Int.le_refl, Nat.le_refl, Int.cast_ofNat_Int, Try.f13, Want.t, rB, rT, hlB, hlT, mp, bp, er, bst0, Ob.t, Ob.cs, unBlanks, unSpans, List.length_nil, Span.t, Span.cs]
  · have hs' := stockOk_iff.1 hs
    obtain ⟨fB, rfl⟩ := hB.ne (by omega)
    obtain ⟨fT, rfl⟩ := hT.ne (by omega)
    have iB : inB (B.length : Int) 1 8 = true := inB_iff.2 (by omega)
    have iT : inB (T.length : Int) 1 6 = true := inB_iff.2 (by omega)
    rcases (Bool.eq_false_or_eq_true (wantOk w)).symm with hw | hw
    · have mp : mostP B T w = ([], 43) := by unfold mostP; rw [if_neg (by rw [hs]; decide), if_pos hw]
      have bp : bestP B T w = (bst0.o, 0, 43) := by unfold bestP; rw [if_neg (by rw [hs]; decide), if_pos hw]
      simp (decide := true) (maxSteps := 4000000) only [go_sem, Nat.reduceAdd, Nat.reduceSub, Nat.reduceMul, Nat.reduceDiv, Nat.reduceMod, Nat.reduceLT, Nat.reduceLeDiff, Nat.reduceEqDiff, Nat.reduceBEq, Nat.reduceBNe, Nat.reduceGT, Int.reduceAdd, Int.reduceSub, Int.reduceMul, Int.reduceNeg, Int.reduceLT, Int.reduceLE, Int.reduceEq, Int.reduceNe, Int.reduceBEq, Int.reduceBNe, Int.reduceToNat, Int.reduceGT, Int.reduceGE, ↓reduceIte, decide_true, decide_false, eq_self, Nat.mul_one, Nat.zero_mul, Nat.one_mul, Int.le_refl, Nat.le_refl, Int.cast_ofNat_Int, Try.f13, Want.t, rB, rT, hlB, hlT, mp, bp, er, iB, iT, bst0, Ob.t, Ob.cs]
    · have hw' : (-400000000 ≤ w.p.lo ∧ w.p.lo ≤ w.p.hi ∧ w.p.hi ≤ 400000000) ∧ 0 ≤ w.c ∧ w.c ≤ 400000000 := by
        simp only [wantOk, spannedB, inB, Bool.and_eq_true, decide_eq_true_eq] at hw; omega
      have nB : ¬ B.length = 0 := by omega
      have nT : ¬ T.length = 0 := by omega
      have rmB : B.length * 40 ≤ 140737488355328 := by omega
      have rmT : T.length * 16 ≤ 140737488355328 := by omega
      have lcB : (B.flatMap Blank.cs).length = B.length * 5 := by have := flatP_len Blank.cs (n := 5) (fun _ => rfl) B; rwa [List.length_map] at this
      have lcT : (T.flatMap Span.cs).length = T.length * 2 := by have := flatP_len Span.cs (n := 2) (fun _ => rfl) T; rwa [List.length_map] at this
      have tkB : List.take (B.length * 5) (B.flatMap Blank.cs) = B.flatMap Blank.cs := List.take_of_length_le (by omega)
      have tkT : List.take (T.length * 2) (T.flatMap Span.cs) = T.flatMap Span.cs := List.take_of_length_le (by omega)
      have hn : 0 < (B.length : Int) ∧ (B.length : Int) ≤ 9223372036854775807 := by omega
      have hm : 0 < (T.length : Int) ∧ (T.length : Int) ≤ 9223372036854775807 := by omega
      have m4 := Int.emod_nonneg (pickI bits 0) (show (4 : Int) ≠ 0 by omega)
      have m4' := Int.emod_lt_of_pos (pickI bits 0) (show (0 : Int) < 4 by omega)
      rcases (show pickI bits 0 % 4 = 3 ∨ pickI bits 0 % 4 = 0 ∨ pickI bits 0 % 4 = 1 ∨ pickI bits 0 % 4 = 2 by omega) with hM | hM | hM | hM
      · obtain ⟨p, hp⟩ : ∃ p, pickI bits 1 % 100000 = p := ⟨_, rfl⟩
        obtain ⟨c, hc⟩ : ∃ p, pickI bits 2 % 1000 = p := ⟨_, rfl⟩
        have p0 : 0 ≤ p ∧ p < 100000 := by
          rw [← hp]; exact ⟨Int.emod_nonneg _ (by omega), Int.emod_lt_of_pos _ (by omega)⟩
        have c0 : 0 ≤ c ∧ c < 1000 := by
          rw [← hc]; exact ⟨Int.emod_nonneg _ (by omega), Int.emod_lt_of_pos _ (by omega)⟩
        obtain ⟨b1, b2⟩ := bet_want (B := B) (T := T) hs hw p0.1 c0.1
        obtain ⟨l, l', b, n, e, b', m, g, e1, e2, e3, e4, hlen, hfin⟩ := bet hs hw hs b1 (Nat.le_refl _) b2
        have w1 : IntKind.i64.wrap (w.p.lo - p) = w.p.lo - p := wrap_in (by omega) (by omega)
        have w2 : IntKind.i64.wrap (w.c + c) = w.c + c := wrap_in (by omega) (by omega)
        simp (decide := true) (maxSteps := 4000000) only [go_sem, Nat.reduceAdd, Nat.reduceSub, Nat.reduceMul, Nat.reduceDiv, Nat.reduceMod, Nat.reduceLT, Nat.reduceLeDiff, Nat.reduceEqDiff, Nat.reduceBEq, Nat.reduceBNe, Nat.reduceGT, Int.reduceAdd, Int.reduceSub, Int.reduceMul, Int.reduceNeg, Int.reduceLT, Int.reduceLE, Int.reduceEq, Int.reduceNe, Int.reduceBEq, Int.reduceBNe, Int.reduceToNat, Int.reduceGT, Int.reduceGE, ↓reduceIte, decide_true, decide_false, eq_self, Nat.mul_one, Nat.zero_mul, Nat.one_mul, Int.le_refl, Nat.le_refl, Int.cast_ofNat_Int, Try.f13, Want.t, rB, rT, rI, hlB, hlT, hlb, iB, iT, nB, nT, rmB, rmT, lcB, lcT, hn, hm, hM, Ob.t, Ob.cs, idsG_t, thaw_t, thawA, thawC, tkB, tkT, Nat.zero_mul, Nat.zero_add, List.drop_zero, freezeW, freezeO, closedG, seenF, wr, upo, List.flatten_cons, List.flatten_nil, unBlanks_eq, unSpans_eq, hp, hc, e1, e2, e3, e4, w1, w2]
        rcases hfin with rfl | ⟨rfl, rfl, hmn⟩
        all_goals rcases rowJ_cases l with ⟨r1, y1⟩ | ⟨r1, y1⟩ <;> rcases rowJ_cases l' with ⟨r2, y2⟩ | ⟨r2, y2⟩
        all_goals
          have g1 : (l'.length : Int) ≥ 0 := by omega
          have g2 : (l'.length : Int) ≥ l.length := by omega
          first
            | (exfalso; omega)
            | (simp (decide := true) (maxSteps := 4000000) only [go_sem, Nat.reduceAdd, Nat.reduceSub, Nat.reduceMul, Nat.reduceDiv, Nat.reduceMod, Nat.reduceLT, Nat.reduceLeDiff, Nat.reduceEqDiff, Nat.reduceBEq, Nat.reduceBNe, Nat.reduceGT, Int.reduceAdd, Int.reduceSub, Int.reduceMul, Int.reduceNeg, Int.reduceLT, Int.reduceLE, Int.reduceEq, Int.reduceNe, Int.reduceBEq, Int.reduceBNe, Int.reduceToNat, Int.reduceGT, Int.reduceGE, ↓reduceIte, decide_true, decide_false, eq_self, Nat.mul_one, Nat.zero_mul, Nat.one_mul, Int.le_refl, Nat.le_refl, Int.cast_ofNat_Int, r1, r2, g1, g2, hmn]; done)
            | (simp (decide := true) (maxSteps := 4000000) only [go_sem, Nat.reduceAdd, Nat.reduceSub, Nat.reduceMul, Nat.reduceDiv, Nat.reduceMod, Nat.reduceLT, Nat.reduceLeDiff, Nat.reduceEqDiff, Nat.reduceBEq, Nat.reduceBNe, Nat.reduceGT, Int.reduceAdd, Int.reduceSub, Int.reduceMul, Int.reduceNeg, Int.reduceLT, Int.reduceLE, Int.reduceEq, Int.reduceNe, Int.reduceBEq, Int.reduceBNe, Int.reduceToNat, Int.reduceGT, Int.reduceGE, ↓reduceIte, decide_true, decide_false, eq_self, Nat.mul_one, Nat.zero_mul, Nat.one_mul, Int.le_refl, Nat.le_refl, Int.cast_ofNat_Int, r1, r2, g1, g2]; done)
      · have k0 := Int.emod_nonneg (pickI bits 1) (show (B.length : Int) ≠ 0 by omega)
        have k1 := Int.emod_lt_of_pos (pickI bits 1) (show 0 < (B.length : Int) by omega)
        obtain ⟨k, hk⟩ := Int.eq_ofNat_of_zero_le k0
        rw [hk] at k1
        obtain ⟨x, hx⟩ := get_lt k1
        have hx' := hs'.2.2.1 x (List.mem_of_getElem? hx)
        have c1 := chosen_mem (pickI bits (2 * (k : Int))) hx'.1.2.1
        have c2 := chosen_mem (pickI bits (2 * (k : Int) + 1)) hx'.2.1.2.1
        obtain ⟨b1, b2⟩ := bet_blank hs hw hx c1 c2
        obtain ⟨l, l', b, n, e, b', m, g, e1, e2, e3, e4, hlen, hfin⟩ := bet hs hw b1 hw (by rw [List.length_set]; exact Nat.le_refl _) b2
        have q1 : (chIx B bits B.length)[k]? = some (chosen x.i.lo x.i.hi (pickI bits (2 * (k : Int)))) := by
          unfold chIx; rw [List.getElem?_map, List.getElem?_range (by omega), Option.map_some, blankAt_eq hx]
        have q2 : (chCo B bits B.length)[k]? = some (chosen x.c.lo x.c.hi (pickI bits (2 * (k : Int) + 1))) := by
          unfold chCo; rw [List.getElem?_map, List.getElem?_range (by omega), Option.map_some, blankAt_eq hx]
        have d1 := ints_at q1
        have d2 := ints_at q2
        rw [Nat.mul_one] at d1 d2
        generalize chosen x.i.lo x.i.hi (pickI bits (2 * (k : Int))) = N at c1 e2 e4 d1
        generalize chosen x.c.lo x.c.hi (pickI bits (2 * (k : Int) + 1)) = C at c2 e2 e4 d2
        have hg := flatP_get Blank.cs (n := 5) (fun _ => rfl) hx
        have hset := flatP_set Blank.cs (n := 5) (fun _ => rfl) (l := B) (k := k) ⟨⟨N, x.i.hi⟩, ⟨x.c.lo, C⟩, x.pr⟩ (by omega)
        simp only [Blank.cs, List.map_cons, List.map_nil] at hg hset
        have hle1 : k * 5 + 5 ≤ B.length * 5 := by omega
        have lcB' : ((B.set k ⟨⟨N, x.i.hi⟩, ⟨x.c.lo, C⟩, x.pr⟩).flatMap Blank.cs).length = B.length * 5 := by have := flatP_len Blank.cs (n := 5) (fun _ => rfl) (B.set k ⟨⟨N, x.i.hi⟩, ⟨x.c.lo, C⟩, x.pr⟩); rwa [List.length_map, List.length_set] at this
        have tkB' : List.take (B.length * 5) ((B.set k ⟨⟨N, x.i.hi⟩, ⟨x.c.lo, C⟩, x.pr⟩).flatMap Blank.cs) = (B.set k ⟨⟨N, x.i.hi⟩, ⟨x.c.lo, C⟩, x.pr⟩).flatMap Blank.cs := List.take_of_length_le (by omega)
        simp (decide := true) (maxSteps := 4000000) only [go_sem, Nat.reduceAdd, Nat.reduceSub, Nat.reduceMul, Nat.reduceDiv, Nat.reduceMod, Nat.reduceLT, Nat.reduceLeDiff, Nat.reduceEqDiff, Nat.reduceBEq, Nat.reduceBNe, Nat.reduceGT, Int.reduceAdd, Int.reduceSub, Int.reduceMul, Int.reduceNeg, Int.reduceLT, Int.reduceLE, Int.reduceEq, Int.reduceNe, Int.reduceBEq, Int.reduceBNe, Int.reduceToNat, Int.reduceGT, Int.reduceGE, ↓reduceIte, decide_true, decide_false, eq_self, Nat.mul_one, Nat.zero_mul, Nat.one_mul, Int.le_refl, Nat.le_refl, Int.cast_ofNat_Int, Try.f13, Want.t, rB, rT, rI, hlB, hlT, hlb, iB, iT, nB, nT, rmB, rmT, lcB, lcT, hn, hm, hM, Ob.t, Ob.cs, idsG_t, thaw_t, thawA, thawC, tkB, tkT, Nat.zero_mul, Nat.zero_add, List.drop_zero, freezeW, freezeO, closedG, seenF, wr, upo, List.flatten_cons, List.flatten_nil, unBlanks_eq, unSpans_eq, hs, hk, k1, d1, d2, hg, hset, hle1, lcB', tkB', List.length_map, List.length_set, e1, e2, e3, e4, Int.toNat_natCast, Nat.zero_add, Span.t, Span.cs]
        rcases hfin with rfl | ⟨rfl, rfl, hmn⟩
        all_goals rcases rowJ_cases l with ⟨r1, y1⟩ | ⟨r1, y1⟩ <;> rcases rowJ_cases l' with ⟨r2, y2⟩ | ⟨r2, y2⟩
        all_goals
          have g1 : (l'.length : Int) ≥ 0 := by omega
          have g2 : (l'.length : Int) ≥ l.length := by omega
          first
            | (exfalso; omega)
            | (simp (decide := true) (maxSteps := 4000000) only [go_sem, Nat.reduceAdd, Nat.reduceSub, Nat.reduceMul, Nat.reduceDiv, Nat.reduceMod, Nat.reduceLT, Nat.reduceLeDiff, Nat.reduceEqDiff, Nat.reduceBEq, Nat.reduceBNe, Nat.reduceGT, Int.reduceAdd, Int.reduceSub, Int.reduceMul, Int.reduceNeg, Int.reduceLT, Int.reduceLE, Int.reduceEq, Int.reduceNe, Int.reduceBEq, Int.reduceBNe, Int.reduceToNat, Int.reduceGT, Int.reduceGE, ↓reduceIte, decide_true, decide_false, eq_self, Nat.mul_one, Nat.zero_mul, Nat.one_mul, Int.le_refl, Nat.le_refl, Int.cast_ofNat_Int, r1, r2, g1, g2, hmn]; done)
            | (simp (decide := true) (maxSteps := 4000000) only [go_sem, Nat.reduceAdd, Nat.reduceSub, Nat.reduceMul, Nat.reduceDiv, Nat.reduceMod, Nat.reduceLT, Nat.reduceLeDiff, Nat.reduceEqDiff, Nat.reduceBEq, Nat.reduceBNe, Nat.reduceGT, Int.reduceAdd, Int.reduceSub, Int.reduceMul, Int.reduceNeg, Int.reduceLT, Int.reduceLE, Int.reduceEq, Int.reduceNe, Int.reduceBEq, Int.reduceBNe, Int.reduceToNat, Int.reduceGT, Int.reduceGE, ↓reduceIte, decide_true, decide_false, eq_self, Nat.mul_one, Nat.zero_mul, Nat.one_mul, Int.le_refl, Nat.le_refl, Int.cast_ofNat_Int, r1, r2, g1, g2]; done)
      · have k0 := Int.emod_nonneg (pickI bits 1) (show (T.length : Int) ≠ 0 by omega)
        have k1 := Int.emod_lt_of_pos (pickI bits 1) (show 0 < (T.length : Int) by omega)
        obtain ⟨k, hk⟩ := Int.eq_ofNat_of_zero_le k0
        rw [hk] at k1
        obtain ⟨x, hx⟩ := get_lt k1
        have hx' := hs'.2.2.2 x (List.mem_of_getElem? hx)
        have c1 := chosen_mem (pickI bits ((k : Int) + 5)) hx'.2.1
        obtain ⟨b1, b2⟩ := bet_tool hs hw hx c1
        obtain ⟨l, l', b, n, e, b', m, g, e1, e2, e3, e4, hlen, hfin⟩ := bet hs hw b1 hw (Nat.le_refl _) b2
        have q1 : (chCu T bits T.length)[k]? = some (chosen x.lo x.hi (pickI bits ((k : Int) + 5))) := by
          unfold chCu; rw [List.getElem?_map, List.getElem?_range (by omega), Option.map_some, toolAt_eq hx]
        have d1 := ints_at q1
        rw [Nat.mul_one] at d1
        generalize chosen x.lo x.hi (pickI bits ((k : Int) + 5)) = N at c1 e2 e4 d1
        have hg := flatP_at Span.cs (n := 2) (fun _ => rfl) hx (j := 1) (by omega)
        have hset := flatP_set Span.cs (n := 2) (fun _ => rfl) (l := T) (k := k) ⟨N, x.hi⟩ (by omega)
        simp only [Span.cs, List.map_cons, List.map_nil, List.getElem?_cons_succ, List.getElem?_cons_zero, Option.map_some] at hg hset
        have hle1 : k * 2 + 2 ≤ T.length * 2 := by omega
        have lcT' : ((T.set k ⟨N, x.hi⟩).flatMap Span.cs).length = T.length * 2 := by have := flatP_len Span.cs (n := 2) (fun _ => rfl) (T.set k ⟨N, x.hi⟩); rwa [List.length_map, List.length_set] at this
        have tkT' : List.take (T.length * 2) ((T.set k ⟨N, x.hi⟩).flatMap Span.cs) = (T.set k ⟨N, x.hi⟩).flatMap Span.cs := List.take_of_length_le (by omega)
        simp (decide := true) (maxSteps := 4000000) only [go_sem, Nat.reduceAdd, Nat.reduceSub, Nat.reduceMul, Nat.reduceDiv, Nat.reduceMod, Nat.reduceLT, Nat.reduceLeDiff, Nat.reduceEqDiff, Nat.reduceBEq, Nat.reduceBNe, Nat.reduceGT, Int.reduceAdd, Int.reduceSub, Int.reduceMul, Int.reduceNeg, Int.reduceLT, Int.reduceLE, Int.reduceEq, Int.reduceNe, Int.reduceBEq, Int.reduceBNe, Int.reduceToNat, Int.reduceGT, Int.reduceGE, ↓reduceIte, decide_true, decide_false, eq_self, Nat.mul_one, Nat.zero_mul, Nat.one_mul, Int.le_refl, Nat.le_refl, Int.cast_ofNat_Int, Try.f13, Want.t, rB, rT, rI, hlB, hlT, hlb, iB, iT, nB, nT, rmB, rmT, lcB, lcT, hn, hm, hM, Ob.t, Ob.cs, idsG_t, thaw_t, thawA, thawC, tkB, tkT, Nat.zero_mul, Nat.zero_add, List.drop_zero, freezeW, freezeO, closedG, seenF, wr, upo, List.flatten_cons, List.flatten_nil, unBlanks_eq, unSpans_eq, hs, hk, k1, d1, hg, hset, hle1, lcT', tkT', List.length_map, List.length_set, e1, e2, e3, e4, Int.toNat_natCast, Span.t, Span.cs]
        rcases hfin with rfl | ⟨rfl, rfl, hmn⟩
        all_goals rcases rowJ_cases l with ⟨r1, y1⟩ | ⟨r1, y1⟩ <;> rcases rowJ_cases l' with ⟨r2, y2⟩ | ⟨r2, y2⟩
        all_goals
          have g1 : (l'.length : Int) ≥ 0 := by omega
          have g2 : (l'.length : Int) ≥ l.length := by omega
          first
            | (exfalso; omega)
            | (simp (decide := true) (maxSteps := 4000000) only [go_sem, Nat.reduceAdd, Nat.reduceSub, Nat.reduceMul, Nat.reduceDiv, Nat.reduceMod, Nat.reduceLT, Nat.reduceLeDiff, Nat.reduceEqDiff, Nat.reduceBEq, Nat.reduceBNe, Nat.reduceGT, Int.reduceAdd, Int.reduceSub, Int.reduceMul, Int.reduceNeg, Int.reduceLT, Int.reduceLE, Int.reduceEq, Int.reduceNe, Int.reduceBEq, Int.reduceBNe, Int.reduceToNat, Int.reduceGT, Int.reduceGE, ↓reduceIte, decide_true, decide_false, eq_self, Nat.mul_one, Nat.zero_mul, Nat.one_mul, Int.le_refl, Nat.le_refl, Int.cast_ofNat_Int, r1, r2, g1, g2, hmn]; done)
            | (simp (decide := true) (maxSteps := 4000000) only [go_sem, Nat.reduceAdd, Nat.reduceSub, Nat.reduceMul, Nat.reduceDiv, Nat.reduceMod, Nat.reduceLT, Nat.reduceLeDiff, Nat.reduceEqDiff, Nat.reduceBEq, Nat.reduceBNe, Nat.reduceGT, Int.reduceAdd, Int.reduceSub, Int.reduceMul, Int.reduceNeg, Int.reduceLT, Int.reduceLE, Int.reduceEq, Int.reduceNe, Int.reduceBEq, Int.reduceBNe, Int.reduceToNat, Int.reduceGT, Int.reduceGE, ↓reduceIte, decide_true, decide_false, eq_self, Nat.mul_one, Nat.zero_mul, Nat.one_mul, Int.le_refl, Nat.le_refl, Int.cast_ofNat_Int, r1, r2, g1, g2]; done)
      · by_cases h8 : (B.length : Int) < 8
        · have k0 := Int.emod_nonneg (pickI bits 1) (show (B.length : Int) ≠ 0 by omega)
          have k1 := Int.emod_lt_of_pos (pickI bits 1) (show 0 < (B.length : Int) by omega)
          obtain ⟨k, hk⟩ := Int.eq_ofNat_of_zero_le k0
          rw [hk] at k1
          obtain ⟨x, hx⟩ := get_lt k1
          obtain ⟨p, hp⟩ : ∃ p, pickI bits 2 % 1000000 = p := ⟨_, rfl⟩
          have p0 : 0 ≤ p ∧ p < 1000000 := by
            rw [← hp]; exact ⟨Int.emod_nonneg _ (by omega), Int.emod_lt_of_pos _ (by omega)⟩
          obtain ⟨b1, b2⟩ := bet_more hs hw (by omega) (List.mem_of_getElem? hx) (p := p) (by omega)
          obtain ⟨l, l', b, n, e, b', m, g, e1, e2, e3, e4, hlen, hfin⟩ := bet hs hw b1 hw (by rw [List.length_append]; omega) b2
          have hg := flatP_get Blank.cs (n := 5) (fun _ => rfl) hx
          have happ : (B.flatMap Blank.cs).map PV.t ++ [.t (.int .i64 x.i.lo), .t (.int .i64 x.i.hi), .t (.int .i64 x.c.lo), .t (.int .i64 x.c.hi), .t (.int .i64 p)] = ((B ++ [(⟨x.i, x.c, p⟩ : Blank)]).flatMap Blank.cs).map PV.t := by
            rw [List.flatMap_append, List.map_append]; rfl
          simp only [Blank.cs, List.map_cons, List.map_nil] at hg
          have hle1 : k * 5 + 5 ≤ B.length * 5 := by omega
          have hl1 : (B ++ [(⟨x.i, x.c, p⟩ : Blank)]).length = B.length + 1 := by simp
          have hlB1 : B.length + 1 ≤ 5864062014806 := by omega
          have rm1 : (B.length + 1) * 40 ≤ 140737488355328 := by omega
          have lcB' : ((B ++ [(⟨x.i, x.c, p⟩ : Blank)]).flatMap Blank.cs).length = (B.length + 1) * 5 := by have := flatP_len Blank.cs (n := 5) (fun _ => rfl) (B ++ [(⟨x.i, x.c, p⟩ : Blank)]); rwa [List.length_map, hl1] at this
          have tkB' : List.take ((B.length + 1) * 5) ((B ++ [(⟨x.i, x.c, p⟩ : Blank)]).flatMap Blank.cs) = (B ++ [(⟨x.i, x.c, p⟩ : Blank)]).flatMap Blank.cs := List.take_of_length_le (by omega)
          simp (decide := true) (maxSteps := 4000000) only [go_sem, Nat.reduceAdd, Nat.reduceSub, Nat.reduceMul, Nat.reduceDiv, Nat.reduceMod, Nat.reduceLT, Nat.reduceLeDiff, Nat.reduceEqDiff, Nat.reduceBEq, Nat.reduceBNe, Nat.reduceGT, Int.reduceAdd, Int.reduceSub, Int.reduceMul, Int.reduceNeg, Int.reduceLT, Int.reduceLE, Int.reduceEq, Int.reduceNe, Int.reduceBEq, Int.reduceBNe, Int.reduceToNat, Int.reduceGT, Int.reduceGE, ↓reduceIte, decide_true, decide_false, eq_self, Nat.mul_one, Nat.zero_mul, Nat.one_mul, Int.le_refl, Nat.le_refl, Int.cast_ofNat_Int, Try.f13, Want.t, rB, rT, rI, hlB, hlT, hlb, iB, iT, nB, nT, rmB, rmT, lcB, lcT, hn, hm, hM, Ob.t, Ob.cs, idsG_t, thaw_t, thawA, thawC, tkB, tkT, Nat.zero_mul, Nat.zero_add, List.drop_zero, freezeW, freezeO, closedG, seenF, wr, upo, List.flatten_cons, List.flatten_nil, unBlanks_eq, unSpans_eq, hs, h8, hk, k1, hg, hp, happ, hle1, hl1, hlB1, rm1, lcB', tkB', List.length_map, e1, e2, e3, e4, Int.toNat_natCast]
          rcases hfin with rfl | ⟨rfl, rfl, hmn⟩
          all_goals rcases rowJ_cases l with ⟨r1, y1⟩ | ⟨r1, y1⟩ <;> rcases rowJ_cases l' with ⟨r2, y2⟩ | ⟨r2, y2⟩
          all_goals
            have g1 : (l'.length : Int) ≥ 0 := by omega
            have g2 : (l'.length : Int) ≥ l.length := by omega
            first
              | (exfalso; omega)
              | (simp (decide := true) (maxSteps := 4000000) only [go_sem, Nat.reduceAdd, Nat.reduceSub, Nat.reduceMul, Nat.reduceDiv, Nat.reduceMod, Nat.reduceLT, Nat.reduceLeDiff, Nat.reduceEqDiff, Nat.reduceBEq, Nat.reduceBNe, Nat.reduceGT, Int.reduceAdd, Int.reduceSub, Int.reduceMul, Int.reduceNeg, Int.reduceLT, Int.reduceLE, Int.reduceEq, Int.reduceNe, Int.reduceBEq, Int.reduceBNe, Int.reduceToNat, Int.reduceGT, Int.reduceGE, ↓reduceIte, decide_true, decide_false, eq_self, Nat.mul_one, Nat.zero_mul, Nat.one_mul, Int.le_refl, Nat.le_refl, Int.cast_ofNat_Int, r1, r2, g1, g2, hmn]; done)
              | (simp (decide := true) (maxSteps := 4000000) only [go_sem, Nat.reduceAdd, Nat.reduceSub, Nat.reduceMul, Nat.reduceDiv, Nat.reduceMod, Nat.reduceLT, Nat.reduceLeDiff, Nat.reduceEqDiff, Nat.reduceBEq, Nat.reduceBNe, Nat.reduceGT, Int.reduceAdd, Int.reduceSub, Int.reduceMul, Int.reduceNeg, Int.reduceLT, Int.reduceLE, Int.reduceEq, Int.reduceNe, Int.reduceBEq, Int.reduceBNe, Int.reduceToNat, Int.reduceGT, Int.reduceGE, ↓reduceIte, decide_true, decide_false, eq_self, Nat.mul_one, Nat.zero_mul, Nat.one_mul, Int.le_refl, Nat.le_refl, Int.cast_ofNat_Int, r1, r2, g1, g2]; done)
        · obtain ⟨l, l', b, n, e, b', m, g, e1, e2, e3, e4, hlen, hfin⟩ := bet hs hw hs hw (Nat.le_refl _) (fun o ho => ⟨ho, Int.le_refl _⟩)
          simp (decide := true) (maxSteps := 4000000) only [go_sem, Nat.reduceAdd, Nat.reduceSub, Nat.reduceMul, Nat.reduceDiv, Nat.reduceMod, Nat.reduceLT, Nat.reduceLeDiff, Nat.reduceEqDiff, Nat.reduceBEq, Nat.reduceBNe, Nat.reduceGT, Int.reduceAdd, Int.reduceSub, Int.reduceMul, Int.reduceNeg, Int.reduceLT, Int.reduceLE, Int.reduceEq, Int.reduceNe, Int.reduceBEq, Int.reduceBNe, Int.reduceToNat, Int.reduceGT, Int.reduceGE, ↓reduceIte, decide_true, decide_false, eq_self, Nat.mul_one, Nat.zero_mul, Nat.one_mul, Int.le_refl, Nat.le_refl, Int.cast_ofNat_Int, Try.f13, Want.t, rB, rT, rI, hlB, hlT, hlb, iB, iT, nB, nT, rmB, rmT, lcB, lcT, hn, hm, hM, Ob.t, Ob.cs, idsG_t, thaw_t, thawA, thawC, tkB, tkT, Nat.zero_mul, Nat.zero_add, List.drop_zero, freezeW, freezeO, closedG, seenF, wr, upo, List.flatten_cons, List.flatten_nil, unBlanks_eq, unSpans_eq, hs, h8, e1, e2, e3, e4]
          rcases hfin with rfl | ⟨rfl, rfl, hmn⟩
          all_goals rcases rowJ_cases l with ⟨r1, y1⟩ | ⟨r1, y1⟩ <;> rcases rowJ_cases l' with ⟨r2, y2⟩ | ⟨r2, y2⟩
          all_goals
            have g1 : (l'.length : Int) ≥ 0 := by omega
            have g2 : (l'.length : Int) ≥ l.length := by omega
            first
              | (exfalso; omega)
              | (simp (decide := true) (maxSteps := 4000000) only [go_sem, Nat.reduceAdd, Nat.reduceSub, Nat.reduceMul, Nat.reduceDiv, Nat.reduceMod, Nat.reduceLT, Nat.reduceLeDiff, Nat.reduceEqDiff, Nat.reduceBEq, Nat.reduceBNe, Nat.reduceGT, Int.reduceAdd, Int.reduceSub, Int.reduceMul, Int.reduceNeg, Int.reduceLT, Int.reduceLE, Int.reduceEq, Int.reduceNe, Int.reduceBEq, Int.reduceBNe, Int.reduceToNat, Int.reduceGT, Int.reduceGE, ↓reduceIte, decide_true, decide_false, eq_self, Nat.mul_one, Nat.zero_mul, Nat.one_mul, Int.le_refl, Nat.le_refl, Int.cast_ofNat_Int, r1, r2, g1, g2, hmn]; done)
              | (simp (decide := true) (maxSteps := 4000000) only [go_sem, Nat.reduceAdd, Nat.reduceSub, Nat.reduceMul, Nat.reduceDiv, Nat.reduceMod, Nat.reduceLT, Nat.reduceLeDiff, Nat.reduceEqDiff, Nat.reduceBEq, Nat.reduceBNe, Nat.reduceGT, Int.reduceAdd, Int.reduceSub, Int.reduceMul, Int.reduceNeg, Int.reduceLT, Int.reduceLE, Int.reduceEq, Int.reduceNe, Int.reduceBEq, Int.reduceBNe, Int.reduceToNat, Int.reduceGT, Int.reduceGE, ↓reduceIte, decide_true, decide_false, eq_self, Nat.mul_one, Nat.zero_mul, Nat.one_mul, Int.le_refl, Nat.le_refl, Int.cast_ofNat_Int, r1, r2, g1, g2]; done)
end Go.Proofs.Ytcjcnmpecmbdeaa
