/- What the claim leans on, text 2. -/
import Derived.Laws.MakeOwn
import Derived.MapKept
import Derived.ChangeMaps5
import Derived.Carry
import Derived.RangeFuncNested
import Derived.OrdersIn
import Derived.OwnWalkIn
import Derived.Test.YtdkboibnokipaaaDoorC1
set_option linter.unusedSimpArgs false
set_option linter.unusedVariables false

/- Part QmMp. -/
namespace Go.Pm
open Go Go.RowKit

variable {P : Program} {C : Cx} {F F' : Fz} {φ φ' φ'' : Nat → Nat × Nat} {h h' h'' : Hp} {w w' : World}

theorem zeroT_rep {t : TypeId} {z : TV} (hz : zeroT P t = some z) : ∃ v, (zeroValue t).run P w = .ok v w ∧ RepT F z v := by
 unfold zeroT at hz
 split at hz
 ·rename_i i hi
  split at hz
  ·rename_i cs hzz
   simp only [Option.map_eq_some_iff] at hz
   obtain ⟨zs, hzs, rfl⟩ := hz
   obtain ⟨h1, h2⟩ := allO_some hzs
   refine ⟨_, run_zeroValue' hi hzz, ?_⟩
   have := RepT.agg (F := F) zs cs.toList h1.symm (fun j u hu => by
    obtain ⟨c, _, hc2⟩ := allO_at hzs hu
    exact (ofVal_rep (F := F) hc2).2) (fun j c u hc hu => (ofVal_rep (h2 j u c hu hc)).1)
   simpa using this
  ·rename_i v hna hzz
   exact ⟨_, run_zeroValue' hi hzz, (ofVal_rep hz).1⟩
  ·cases hz
 ·cases hz

theorem flat_get {α : Type} (l : List α) : ∀ (n j : Nat), (List.replicate n l).flatten[j]? = if j < n * l.length then l[j % l.length]? else none
 | 0, j => by simp
 | n + 1, j => by
  rw [List.replicate_succ, List.flatten_cons]
  by_cases hj : j < l.length
  ·rw [List.getElem?_append_left hj, Nat.mod_eq_of_lt hj, if_pos (by rw [Nat.add_mul]; omega)]
  ·rw [List.getElem?_append_right (Nat.le_of_not_lt hj), flat_get l n]
   have e : (j - l.length) % l.length = j % l.length := by rw [Nat.mod_eq_sub_mod (Nat.le_of_not_lt hj)]
   rw [e, Nat.add_mul]
   by_cases h2 : j - l.length < n * l.length
   ·rw [if_pos h2, if_pos (by omega)]
   ·rw [if_neg h2, if_neg (by omega)]

theorem range_get' (n i : Nat) : (List.range n)[i]? = if i < n then some i else none := by
 by_cases h : i < n
 ·simp [h]
 ·simp [h]
theorem sim_makeSlice (H : RH P C F φ h w) {t e : TypeId} {l c : Int} {kl kc : IntKind} {sz by_ rid : Nat} {zs : List TV} (he : sliceO P t = some e) (hsm : smallO P e = some (sz, by_)) (hz : zeroL P e = some zs)
  (h0 : 0 ≤ l) (hlc : l = c) (hro : roomy l.toNat by_) (hres : h rid = .res) :
  Sim P C h (((do pure (Next.value (← Instr.makeSlice t (.int kl l) (.int kc c)))) : Sem Next).run P w) (.gsl rid 0 sz 0 l.toNat false) [(rid, .grow 0 (List.replicate l.toNat (zs.map .t)).flatten e sz)] := by
 subst hlc
 obtain ⟨i, z, hi, hzz, hsz, hzs, hpos, hby, hb0, hco⟩ := smallO_some hsm
 obtain ⟨i', z', hi', hzz', hr, ho⟩ := zeroL_rep (F := F) hz
 rw [hi] at hi'; cases hi'
 rw [hzz] at hzz'; cases hzz'
 obtain ⟨n, rfl⟩ := Int.eq_ofNat_of_zero_le h0
 simp only [Int.toNat_natCast] at hro ⊢
 have hmax := roomy_le hb0 hro
 have hrun := run_make (P := P) w t e i z (sliceO_some he) hi hzz kl kc n n h0 (Int.le_refl _) (by
  rw [hby]; unfold roomy at hro
  have : ((by_ * n : Nat) : Int) ≤ 281474976710656 := by rw [Nat.mul_comm]; omega
  rwa [Int.natCast_mul] at this) (by omega)
 simp only [Int.toNat_natCast, hsz] at hrun
 have hmc : (madeCells z.cells (n * sz)).toList = (List.replicate n z.cells.toList).flatten := by
  apply List.ext_getElem?
  intro j
  rw [flat_get]
  unfold madeCells
  rw [Array.toList_map, List.getElem?_map, Array.toList_range, range_get']
  have hl : z.cells.toList.length = sz := by simpa using hzs
  rw [hl]
  by_cases hj : j < n * sz
  ·rw [if_pos hj, if_pos hj, Option.map_some]
   have hlt : j % sz < z.cells.size := by rw [hzs]; exact Nat.mod_lt _ hpos
   rw [hzs, getElem!_pos z.cells (j % sz) hlt]
   simp [hlt]
  ·rw [if_neg hj, if_neg hj]; rfl
 have hG : RepG F φ h (List.replicate n (zs.map .t)).flatten (List.replicate n z.cells.toList).flatten := by
  clear hrun hmc hro hmax h0
  induction n with
  | zero => exact ⟨rfl, fun i p u hp => by simp at hp⟩
  | succ n ih =>
   rw [List.replicate_succ, List.replicate_succ, List.flatten_cons, List.flatten_cons]
   exact (RepG.of_t hr ho).append ih
 have hl : (List.replicate n z.cells.toList).flatten.length = n * sz := by simp [hzs]
 obtain ⟨a, b⟩ := newGrow H (rest := []) hres hG hl (by simpa using hl) (Nat.le_refl _) (by unfold maxLen; omega) hco
 rw [List.append_nil] at a
 refine ⟨F, _, _, _, .inl ?_, a, b⟩
 simp only [Sem.run_bind, hrun, Result.andThen_ok, Sem.run_pure]
 congr 3
 apply Array.ext'
 rw [hmc]

theorem sim_allocM (H : RH P C F φ h w) {t : TypeId} {sz by_ rid : Nat} {zs : List TV} (hsm : smallO P t = some (sz, by_)) (hz : zeroL P t = some zs) (hres : h rid = .res) :
  Sim P C h (((do pure (Next.value (← Instr.alloc t true (.tuple #[]))) : Sem Next)).run P w) (.gptr rid 0 0) [(rid, .grow 0 (zs.map .t) t sz)] := by
 obtain ⟨i, z, hi, hzz, hsz, hzs, hpos, hby, hb0, hco⟩ := smallO_some hsm
 obtain ⟨i', z', hi', hzz', hr, ho⟩ := zeroL_rep (F := F) hz
 rw [hi] at hi'; cases hi'
 rw [hzz] at hzz'; cases hzz'
 have hl : z.cells.toList.length = sz := by simpa using hzs
 have hs := HStep.put (φ := φ) hres (w.heap.size, 1) (.grow 0 (zs.map .t) t sz)
 have := H.allocGrow (rid := rid) (v := 0) (sz := sz) z.cells.toList t 1 (zs.map .t) hs (by rw [hl, Nat.one_mul]) (by rw [List.length_map, hl, ← hr.1, hl]; exact Nat.le_refl _) hco (fun j c u hc hu => by
  obtain ⟨x, hx, rfl⟩ := getElem?_map_t hc
  exact ⟨hr.2 j x u hx hu, ho j u hu⟩)
 refine ⟨F, _, .pointer (some ⟨w.heap.size, 0, none⟩), _, .inl ?_, this, 0, t, sz, _, by rw [show wr h [(rid, PO.grow 0 (zs.map .t) t sz)] rid = _ from upo_same _ _ _]; rfl, Nat.le_refl _, rfl, fun _ => by rw [upd_same]⟩
 simp only [Sem.run_bind, Instr.alloc, run_zeroValue' hi hzz, Result.andThen_ok, newVar, newRow, run_newObj, Sem.run_pure]
 simp

theorem mapO_some {t k e : TypeId} (hm : mapO P t = some (k, e)) : P.underlying t = some (.map k e) := by
 unfold mapO at hm
 split at hm
 ·rename_i h1; simp at hm; rw [h1, hm.1, hm.2]
 ·cases hm

theorem sim_makeMap (H : RH P C F φ h w) {t : TypeId} {rid : Nat} (hres : h rid = .res) :
  Sim P C h (((do pure (Next.value (← Instr.makeMap t none))) : Sem Next).run P w) (.mapr rid) [(rid, .mp t fun _ => none)] := by
 have hs := HStep.put (φ := φ) hres (w.heap.size, 0) (.mp t fun _ => none)
 refine ⟨F, upd φ rid (w.heap.size, 0), .map (some w.heap.size), w.alloc (.map #[] 0), .inl ?_, H.put _ _ hs (Fz.le_refl _) (agree_alloc H _) (fun a u h1 h2 => by rw [h1] at h2; cases h2) (Below.bel (below_alloc _ _)) (.inl (Nat.le_refl _)) ?_, t, by rw [show wr h [(rid, PO.mp t fun _ => none)] rid = _ from upo_same _ _ _]; rfl, by rw [upd_same]⟩
 ·simp only [Sem.run_bind, run_makeMap, Result.andThen_ok, Sem.run_pure]
 ·refine ⟨#[], 0, [], by rw [upd_same]; exact alloc_new _ _, rfl, by funext k; simp [lookT], fun i p x hp => by simp at hp, fun a ha => by rw [upd_same] at ha; exact F_none_newA H a (Nat.le_of_eq ha.symm)⟩

/-! ### Keys -/
theorem bytes_beq (x y : ByteArray) : (x == y) = true ↔ x = y := by
 obtain ⟨a⟩ := x; obtain ⟨b⟩ := y
 show (a == b) = true ↔ _
 simp
theorem part_cells (t : TypeId) (o : Nat) : ∃ n, ∀ (xs : List TV) (u : TV), (∀ x ∈ xs, x.scal = true) → partT P t xs o = some u → u.cells.length = n ∧ xs.drop o = u.cells ++ xs.drop (o + n) ∧ (∀ x ∈ u.cells, x.scal = true) ∧
  ∀ (ys : List TV) (v : TV), (∀ x ∈ ys, x.scal = true) → partT P t ys o = some v → (u = v ↔ u.cells = v.cells) := by
 cases ha : aggO P t with
 | none => exact ⟨0, fun xs u _ h => by unfold partT at h; rw [ha] at h; cases h⟩
 | some b =>
  cases b with
  | true =>
   cases hs : szO P t with
   | none => exact ⟨0, fun xs u _ h => by unfold partT at h; rw [ha] at h; simp only [hs] at h; cases h⟩
   | some n =>
    have key : ∀ (xs : List TV) (u : TV), partT P t xs o = some u → o + n ≤ xs.length ∧ u = .agg ((xs.drop o).take n) := by
     intro xs u h
     unfold partT at h
     rw [ha] at h
     simp only [hs] at h
     split at h
     ·rename_i hn; cases h; exact ⟨hn, rfl⟩
     ·cases h
    refine ⟨n, fun xs u hx h => ?_⟩
    obtain ⟨h1, rfl⟩ := key xs u h
    refine ⟨by simp only [TV.cells, List.length_take, List.length_drop]; omega, ?_, ?_, fun ys v hy h' => ?_⟩
    ·simp only [TV.cells]
     rw [← List.drop_drop, List.take_append_drop]
    ·intro x hx'
     exact hx x (List.mem_of_mem_drop (List.mem_of_mem_take hx'))
    ·obtain ⟨h2, rfl⟩ := key ys v h'
     simp only [TV.cells]
     exact ⟨fun e => TV.agg.inj e, fun e => by rw [e]⟩
  | false =>
   have key : ∀ (xs : List TV) (u : TV), (∀ x ∈ xs, x.scal = true) → partT P t xs o = some u → xs[o]? = some u ∧ u.cells = [u] ∧ u.scal = true := by
    intro xs u hx h
    unfold partT at h
    rw [ha] at h
    simp only at h
    have := hx u (List.mem_of_getElem? h)
    refine ⟨h, ?_, this⟩
    cases u <;> simp [TV.scal] at this <;> rfl
   refine ⟨1, fun xs u hx h => ?_⟩
   obtain ⟨h1, h2, h3⟩ := key xs u hx h
   refine ⟨by rw [h2]; rfl, ?_, by rw [h2]; simpa using h3, fun ys v hy h' => ?_⟩
   ·rw [h2]
    obtain ⟨hlt, he⟩ := List.getElem?_eq_some_iff.1 h1
    rw [List.drop_eq_getElem_cons hlt, he]; rfl
   ·obtain ⟨_, h5, _⟩ := key ys v hy h'
    rw [h2, h5]
    exact ⟨fun e => by rw [e], fun e => by cases e; rfl⟩
theorem eq_keyFs {eq : TypeId → TV → TV → Option Bool} {kt : TypeId → TV → Bool} (ih : ∀ t x y, (∀ c ∈ x.cells, c.scal = true) → (∀ c ∈ y.cells, c.scal = true) → kt t x = true → kt t y = true → ∃ b, eq t x y = some b ∧ (b = true ↔ x = y))
  {xs ys : List TV} (hx : ∀ c ∈ xs, c.scal = true) (hy : ∀ c ∈ ys, c.scal = true) : ∀ (fs : List Field) (o : Nat), keyFs P kt xs fs o = true → keyFs P kt ys fs o = true →
  ∃ b, eqFs P eq xs ys fs = some b ∧ (b = true ↔ xs.drop o = ys.drop o)
 | [], o, h1, h2 => by
  simp only [keyFs, beq_iff_eq] at h1 h2
  refine ⟨true, rfl, ?_⟩
  rw [List.drop_eq_nil_of_le (by omega), List.drop_eq_nil_of_le (by omega)]
  simp
 | f :: fs, o, h1, h2 => by
  simp only [keyFs, Bool.and_eq_true, decide_eq_true_eq, beq_iff_eq] at h1 h2
  obtain ⟨hn, ho, h1⟩ := h1
  obtain ⟨_, _, h2⟩ := h2
  split at h1
  ·rename_i u hu
   split at h2
   ·rename_i v hv
    simp only [Bool.and_eq_true] at h1 h2
    obtain ⟨n, hc⟩ := part_cells (P := P) f.type o
    obtain ⟨a1, a2, a3, a4⟩ := hc xs u hx hu
    obtain ⟨b1, b2, b3, _⟩ := hc ys v hy hv
    rw [a1] at h1
    rw [b1] at h2
    obtain ⟨b, e1, e2⟩ := ih f.type u v a3 b3 h1.1 h2.1
    obtain ⟨c, e3, e4⟩ := eq_keyFs ih hx hy fs (o + n) h1.2 h2.2
    refine ⟨b && c, ?_, ?_⟩
    ·simp only [eqFs, if_pos hn]
     rw [ho, hu, hv]
     simp only [e1, e3]
    ·rw [Bool.and_eq_true, e2, e4, a4 ys v hy hv, a2, b2]
     constructor
     ·rintro ⟨p, q⟩; rw [p, q]
     ·intro p; exact List.append_inj p (by omega)
   ·cases h2
  ·cases h1
theorem eq_keyAs {eq : TypeId → TV → TV → Option Bool} {kt : TypeId → TV → Bool} (ih : ∀ t x y, (∀ c ∈ x.cells, c.scal = true) → (∀ c ∈ y.cells, c.scal = true) → kt t x = true → kt t y = true → ∃ b, eq t x y = some b ∧ (b = true ↔ x = y))
  {xs ys : List TV} (hx : ∀ c ∈ xs, c.scal = true) (hy : ∀ c ∈ ys, c.scal = true) {e n : Nat} : ∀ (k i : Nat), keyAs P kt xs e n k i = true → keyAs P kt ys e n k i = true →
  ∃ b, eqAs P eq xs ys e n k i = some b ∧ (b = true ↔ xs.drop (i * n) = ys.drop (i * n))
 | 0, i, h1, h2 => by
  simp only [keyAs, beq_iff_eq] at h1 h2
  refine ⟨true, rfl, ?_⟩
  rw [List.drop_eq_nil_of_le (by omega), List.drop_eq_nil_of_le (by omega)]
  simp
 | k + 1, i, h1, h2 => by
  simp only [keyAs] at h1 h2
  split at h1
  ·rename_i u hu
   split at h2
   ·rename_i v hv
    simp only [Bool.and_eq_true, beq_iff_eq] at h1 h2
    obtain ⟨m, hc⟩ := part_cells (P := P) e (i * n)
    obtain ⟨a1, a2, a3, a4⟩ := hc xs u hx hu
    obtain ⟨b1, b2, b3, _⟩ := hc ys v hy hv
    have hm : m = n := by omega
    subst hm
    obtain ⟨b, e1, e2⟩ := ih e u v a3 b3 h1.2.1 h2.2.1
    obtain ⟨c, e3, e4⟩ := eq_keyAs ih hx hy k (i + 1) h1.2.2 h2.2.2
    refine ⟨b && c, ?_, ?_⟩
    ·simp only [eqAs]
     rw [hu, hv]
     simp only [e1, e3]
    ·have hs : (i + 1) * m = i * m + m := Nat.succ_mul i m
     rw [Bool.and_eq_true, e2, e4, a4 ys v hy hv, a2, b2, hs]
     constructor
     ·rintro ⟨p, q⟩; rw [p, q]
     ·intro p; exact List.append_inj p (by omega)
   ·cases h2
  ·cases h1
theorem eq_key : ∀ (d : Nat) (t : TypeId) (x y : TV), (∀ c ∈ x.cells, c.scal = true) → (∀ c ∈ y.cells, c.scal = true) → keyT P d t x = true → keyT P d t y = true → ∃ b, eqT P d t x y = some b ∧ (b = true ↔ x = y)
 | 0, _, _, _, _, _, h, _ => by simp [keyT] at h
 | d + 1, t, x, y, hx, hy, h1, h2 => by
  simp only [keyT] at h1 h2
  split at h1
  ·rename_i k' k n hu
   simp only [hu] at h2
   cases y <;> simp only [Bool.false_eq_true] at h2
   rename_i k2 n2
   simp only [beq_iff_eq] at h1 h2
   subst h1; subst h2
   exact ⟨_, by simp [eqT, hu]; rfl, by simp⟩
  ·rename_i b hu
   simp only [hu] at h2
   cases y <;> simp only [Bool.false_eq_true] at h2
   exact ⟨_, by simp [eqT, hu]; rfl, by simp⟩
  ·rename_i s hu
   simp only [hu] at h2
   cases y <;> simp only [Bool.false_eq_true] at h2
   rename_i s2
   refine ⟨_, by simp only [eqT, hu]; rfl, ?_⟩
   simp only [beq_iff_eq, ByteArray.toList_eq, TV.str.injEq]
   obtain ⟨⟨a⟩⟩ := s; obtain ⟨⟨b⟩⟩ := s2
   simp
  ·rename_i fs xs hu
   simp only [hu] at h2
   cases y <;> simp only [Bool.false_eq_true] at h2
   rename_i ys
   simp only [Bool.and_eq_true, Bool.not_eq_true'] at h1 h2
   obtain ⟨b, e1, e2⟩ := eq_keyFs (eq := eqT P d) (xs := xs) (ys := ys) (eq_key d) hx hy fs.toList 0 h1.2 h2.2
   refine ⟨b, by simp only [eqT, hu, h1.1, Bool.false_eq_true, if_false, e1], ?_⟩
   rw [e2, List.drop_zero, List.drop_zero]
   exact ⟨fun e => by rw [e], fun e => TV.agg.inj e⟩
  ·rename_i len e xs hu
   simp only [hu] at h2
   cases y <;> simp only [Bool.false_eq_true] at h2
   rename_i ys
   split at h1
   ·rename_i n hn
    simp only [hn] at h2
    obtain ⟨b, e1, e2⟩ := eq_keyAs (eq := eqT P d) (xs := xs) (ys := ys) (eq_key d) hx hy len 0 h1 h2
    refine ⟨b, by simp only [eqT, hu, hn, e1], ?_⟩
    rw [e2, Nat.zero_mul, List.drop_zero, List.drop_zero]
    exact ⟨fun e => by rw [e], fun e => TV.agg.inj e⟩
   ·cases h1
  ·cases h1
def keyB (P : Program) (kt : TypeId) (k : TV) : Bool := k.cells.all TV.scal && keyT P 20 kt k
theorem keyB_iff {kt : TypeId} {k : TV} : keyB P kt k = true ↔ (∀ c ∈ k.cells, c.scal = true) ∧ keyT P 20 kt k = true := by
 unfold keyB
 rw [Bool.and_eq_true, List.all_eq_true]
theorem same_rep {kt : TypeId} {d : TypeDesc} (hd : P.underlying kt = some d) {a b : TV} {u v : Value} (ha : keyB P kt a = true) (hb : keyB P kt b = true) (ru : RepT F a u) (rv : RepT F b v) :
  (Instr.sameNow d u v = none ∨ (b = a → Instr.sameNow d u v = some true) ∧ (b ≠ a → Instr.sameNow d u v = some false)) ∧ ∃ c, (Op.equal kt u v).run P w = .ok c w ∧ (c = true ↔ a = b) := by
 obtain ⟨a1, a2⟩ := keyB_iff.1 ha
 obtain ⟨b1, b2⟩ := keyB_iff.1 hb
 constructor
 ·rw [show (20 : Nat) = 19 + 1 from rfl] at a2 b2
  simp only [keyT, hd] at a2 b2
  split at a2
  ·rename_i k' k n hu
   cases hu
   cases b <;> simp only [Bool.false_eq_true] at b2
   rename_i k2 n2
   simp only [beq_iff_eq] at a2 b2
   subst a2; subst b2
   cases ru; cases rv
   refine .inr ⟨fun e => by cases e; simp [Instr.sameNow], fun e => ?_⟩
   simp only [Instr.sameNow, if_true, Option.some.injEq, beq_eq_false_iff_ne, ne_eq]
   rintro rfl; exact e rfl
  ·rename_i x hu
   cases hu
   cases b <;> simp only [Bool.false_eq_true] at b2
   cases ru; cases rv
   refine .inr ⟨fun e => by cases e; simp [Instr.sameNow], fun e => ?_⟩
   simp only [Instr.sameNow, Option.some.injEq, beq_eq_false_iff_ne, ne_eq]
   rintro rfl; exact e rfl
  ·rename_i x hu
   cases hu
   cases b <;> simp only [Bool.false_eq_true] at b2
   cases ru; cases rv
   refine .inr ⟨fun e => by cases e; simp only [Instr.sameNow, Option.some.injEq]; exact (bytes_beq _ _).2 rfl, fun e => ?_⟩
   simp only [Instr.sameNow, Option.some.injEq]
   rw [Bool.eq_false_iff]
   exact fun h => e (by rw [(bytes_beq _ _).1 h])
  ·rename_i hu
   cases hu
   exact .inl (by simp [Instr.sameNow])
  ·rename_i hu
   cases hu
   exact .inl (by simp [Instr.sameNow])
  ·cases a2
 ·obtain ⟨c, e1, e2⟩ := eq_key 20 kt a b a1 b1 a2 b2
  exact ⟨c, run_equalIn 20 Op.maxDepth (by decide) e1 ru rv, e2⟩

theorem findNow_rep {kt : TypeId} {d : TypeDesc} (hd : P.underlying kt = some d) {k : TV} {u : Value} (hk : keyB P kt k = true) (ru : RepT F k u) : ∀ (es : List MapEntry) (ents : List (TV × TV)) (i : Nat), es.length = ents.length →
  (∀ (j : Nat) (p : TV × TV) (x : MapEntry), ents[j]? = some p → es[j]? = some x → keyB P kt p.1 = true ∧ RepT F p.1 x.key) →
  Instr.findNow d u es i = none ∨ (Instr.findNow d u es i = some none ∧ ∀ p ∈ ents, p.1 ≠ k) ∨ ∃ j p x, ents[j]? = some p ∧ es[j]? = some x ∧ p.1 = k ∧ (∀ j' p', j' < j → ents[j']? = some p' → p'.1 ≠ k) ∧ Instr.findNow d u es i = some (some (i + j, x.val))
 | [], [], i, _, _ => .inr (.inl ⟨rfl, fun p hp => by cases hp⟩)
 | e :: es, p :: ents, i, hl, hr => by
  obtain ⟨h1, h2⟩ := hr 0 p e rfl rfl
  rcases (same_rep (w := default) hd hk h1 ru h2).1 with hs | hs
  ·exact .inl (by simp only [Instr.findNow, hs])
  ·by_cases hpk : p.1 = k
   ·refine .inr (.inr ⟨0, p, e, rfl, rfl, hpk, fun j' p' hj => by omega, ?_⟩)
    simp only [Instr.findNow, hs.1 hpk, Nat.add_zero]
   ·have hf : Instr.findNow d u (e :: es) i = Instr.findNow d u es (i + 1) := by
     simp only [Instr.findNow, hs.2 hpk]
    rcases findNow_rep hd hk ru es ents (i + 1) (by simpa using hl) (fun j p x a b => hr (j + 1) p x (by simpa using a) (by simpa using b)) with q | ⟨q1, q2⟩ | ⟨j, p', x, q1, q2, q3, q4, q5⟩
    ·exact .inl (by rw [hf]; exact q)
    ·exact .inr (.inl ⟨by rw [hf]; exact q1, fun p' hp' => by
      rcases List.mem_cons.1 hp' with rfl | hp'
      ·exact hpk
      ·exact q2 p' hp'⟩)
    ·refine .inr (.inr ⟨j + 1, p', x, by simpa using q1, by simpa using q2, q3, fun j' p'' hj' hp'' => ?_, by rw [hf, q5]; congr 3; omega⟩)
     cases j' with
     | zero => simp at hp''; subst hp''; exact hpk
     | succ j' => exact q4 j' p'' (by omega) (by simpa using hp'')
 | [], _ :: _, _, hl, _ => by simp at hl
 | _ :: _, [], _, hl, _ => by simp at hl
theorem findAsking_rep {kt : TypeId} {d : TypeDesc} (hd : P.underlying kt = some d) {k : TV} {u : Value} (hk : keyB P kt k = true) (ru : RepT F k u) : ∀ (es : List MapEntry) (ents : List (TV × TV)) (i : Nat), es.length = ents.length →
  (∀ (j : Nat) (p : TV × TV) (x : MapEntry), ents[j]? = some p → es[j]? = some x → keyB P kt p.1 = true ∧ RepT F p.1 x.key) →
  ((Instr.findAsking kt u es i).run P w = .ok none w ∧ ∀ p ∈ ents, p.1 ≠ k) ∨ ∃ j p x, ents[j]? = some p ∧ es[j]? = some x ∧ p.1 = k ∧ (∀ j' p', j' < j → ents[j']? = some p' → p'.1 ≠ k) ∧ (Instr.findAsking kt u es i).run P w = .ok (some (i + j, x.val)) w
 | [], [], i, _, _ => .inl ⟨by simp [Instr.findAsking], fun p hp => by cases hp⟩
 | e :: es, p :: ents, i, hl, hr => by
  obtain ⟨h1, h2⟩ := hr 0 p e rfl rfl
  obtain ⟨c, hc, hci⟩ := (same_rep (w := w) hd hk h1 ru h2).2
  by_cases hpk : p.1 = k
  ·have : c = true := hci.2 hpk.symm
   subst this
   refine .inr ⟨0, p, e, rfl, rfl, hpk, fun j' p' hj => by omega, ?_⟩
   simp [Instr.findAsking, hc]
  ·have : c = false := by
    cases c with
    | false => rfl
    | true => exact absurd (hci.1 rfl).symm hpk
   subst this
   have hf : (Instr.findAsking kt u (e :: es) i).run P w = (Instr.findAsking kt u es (i + 1)).run P w := by
    simp [Instr.findAsking, hc]
   rcases findAsking_rep hd hk ru es ents (i + 1) (by simpa using hl) (fun j p x a b => hr (j + 1) p x (by simpa using a) (by simpa using b)) with ⟨q1, q2⟩ | ⟨j, p', x, q1, q2, q3, q4, q5⟩
   ·exact .inl ⟨by rw [hf]; exact q1, fun p' hp' => by
     rcases List.mem_cons.1 hp' with rfl | hp'
     ·exact hpk
     ·exact q2 p' hp'⟩
   ·refine .inr ⟨j + 1, p', x, by simpa using q1, by simpa using q2, q3, fun j' p'' hj' hp'' => ?_, by rw [hf, q5, show i + 1 + j = i + (j + 1) by omega]⟩
    cases j' with
    | zero => simp at hp''; subst hp''; exact hpk
    | succ j' => exact q4 j' p'' (by omega) (by simpa using hp'')
 | [], _ :: _, _, hl, _ => by simp at hl
 | _ :: _, [], _, hl, _ => by simp at hl

theorem run_checkFs {em : Bool} {D : Nat} {kt : TypeId → TV → Bool} (ih : ∀ (t : TypeId) (x : TV) (u : Value), kt t x = true → RepT F x u → (Instr.checkKey em D t u).run P w = .ok () w)
  {xs : List TV} {us : List Value} (hx : RepL F xs us) (hx1 : ∀ (i : Nat) (u : Value), us[i]? = some u → u.oneCell' = true) : ∀ (fs : List Field) (o : Nat), keyFs P kt xs fs o = true →
  (forIn (m := Sem) fs PUnit.unit (fun f _ => do
    if f.name ≠ "_" then do
     Instr.checkKey em D f.type (← part f.type us.toArray f.offset)
     pure (ForInStep.yield PUnit.unit)
    else pure (ForInStep.yield PUnit.unit))).run P w = .ok PUnit.unit w
 | [], o, _ => by simp
 | f :: fs, o, h => by
  simp only [keyFs, Bool.and_eq_true, decide_eq_true_eq, beq_iff_eq] at h
  obtain ⟨hn, ho, h⟩ := h
  split at h
  ·rename_i u hu
   simp only [Bool.and_eq_true] at h
   obtain ⟨u', hu', ru⟩ := part_rep (P := P) (w := w) hu hx hx1
   have e1 := ih f.type u u' h.1 ru
   have e2 := run_checkFs ih hx hx1 fs _ h.2
   subst ho
   simp only [List.forIn_cons, Sem.run_bind, hn, ne_eq, not_false_eq_true, if_true, hu', Result.andThen_ok, e1, Sem.run_pure]
   exact e2
  ·cases h
theorem run_checkAs {em : Bool} {D : Nat} {kt : TypeId → TV → Bool} (ih : ∀ (t : TypeId) (x : TV) (u : Value), kt t x = true → RepT F x u → (Instr.checkKey em D t u).run P w = .ok () w)
  {xs : List TV} {us : List Value} (hx : RepL F xs us) (hx1 : ∀ (i : Nat) (u : Value), us[i]? = some u → u.oneCell' = true) {e n : Nat} (hn : szO P e = some n) : ∀ (k i : Nat), keyAs P kt xs e n k i = true →
  (forIn (m := Sem) (List.range' i k) PUnit.unit (fun i _ => do
    Instr.checkKey em D e (← part e us.toArray (i * (← sizeOf e)))
    pure (ForInStep.yield PUnit.unit))).run P w = .ok PUnit.unit w
 | 0, i, _ => by simp
 | k + 1, i, h => by
  simp only [keyAs] at h
  split at h
  ·rename_i u hu
   simp only [Bool.and_eq_true] at h
   obtain ⟨u', hu', ru⟩ := part_rep (P := P) (w := w) hu hx hx1
   have e1 := ih e u u' h.2.1 ru
   have e2 := run_checkAs ih hx hx1 hn k (i + 1) h.2.2
   simp only [List.range'_succ, List.forIn_cons, Sem.run_bind, run_sizeOf' hn, hu', Result.andThen_ok, e1, Sem.run_pure]
   exact e2
  ·cases h
theorem run_checkKey_at {em : Bool} : ∀ (d D : Nat) (t : TypeId) (x : TV) (u : Value), d ≤ D → keyT P d t x = true → RepT F x u → (Instr.checkKey em D t u).run P w = .ok () w
 | 0, _, _, _, _, _, h, _ => by simp [keyT] at h
 | d + 1, D, t, x, u, hd, h, ru => by
  obtain ⟨D, rfl⟩ : ∃ D', D = D' + 1 := ⟨D - 1, by omega⟩
  simp only [keyT] at h
  split at h
  ·rename_i hu; cases ru; simp only [Instr.checkKey, Sem.run_bind, run_underlying' hu, Result.andThen_ok, Sem.run_pure]
  ·rename_i hu; cases ru; simp only [Instr.checkKey, Sem.run_bind, run_underlying' hu, Result.andThen_ok, Sem.run_pure]
  ·rename_i hu; cases ru; simp only [Instr.checkKey, Sem.run_bind, run_underlying' hu, Result.andThen_ok, Sem.run_pure]
  ·rename_i fs xs hu
   cases ru with
   | agg _ us l1 o1 r1 =>
    simp only [Bool.and_eq_true] at h
    have := run_checkFs (P := P) (w := w) (em := em) (D := D) (kt := keyT P d) (fun t x u a b => run_checkKey_at d D t x u (by omega) a b) ⟨l1, r1⟩ o1 fs.toList 0 h.2
    simp only [Instr.checkKey, Sem.run_bind, run_underlying' hu, Result.andThen_ok]
    rw [← Array.forIn_toList]
    simp at this ⊢
    simp [this]
  ·rename_i len e xs hu
   cases ru with
   | agg _ us l1 o1 r1 =>
    split at h
    ·rename_i n hn
     have := run_checkAs (P := P) (w := w) (em := em) (D := D) (kt := keyT P d) (fun t x u a b => run_checkKey_at d D t x u (by omega) a b) ⟨l1, r1⟩ o1 hn len 0 h
     simp only [Instr.checkKey, Sem.run_bind, run_underlying' hu, Result.andThen_ok]
     rw [Std.Legacy.Range.forIn_eq_forIn_range']
     simp only [Std.Legacy.Range.size, Nat.sub_zero, Nat.add_sub_cancel, Nat.div_one]
     simp at this ⊢
     simp [this]
    ·cases h
  ·cases h
theorem run_checkKey' {kt : TypeId} {em : Bool} {k : TV} {u : Value} (hk : keyB P kt k = true) (ru : RepT F k u) : (Instr.checkKey em 10000 kt u).run P w = .ok () w :=
 run_checkKey_at 20 10000 kt k u (by decide) (keyB_iff.1 hk).2 ru

theorem scal_val {k : TV} {u v : Value} (hk : k.scal = true) (ru : RepT F k u) (rv : RepT F k v) : u = v ∧ ∀ n, Instr.sameBits n u u = true := by
 cases k <;> simp only [TV.scal, Bool.false_eq_true] at hk <;> cases ru <;> cases rv <;> exact ⟨rfl, fun n => by cases n <;> simp [Instr.sameBits, bytes_beq]⟩
theorem scalar_val {k : TV} {u v : Value} (hk : ∀ c ∈ k.cells, c.scal = true) (ht : ∀ vs, k ≠ .tup vs) (ru : RepT F k u) (rv : RepT F k v) : u = v ∧ Instr.sameBits 10000 u u = true := by
 by_cases ha : ∃ xs, k = .agg xs
 ·obtain ⟨xs, rfl⟩ := ha
  cases ru with
  | agg _ us l1 o1 r1 =>
   cases rv with
   | agg _ vs l2 o2 r2 =>
    have e : us = vs := by
     apply List.ext_getElem?
     intro i
     cases hx : xs[i]? with
     | none =>
      have := List.getElem?_eq_none_iff.1 hx
      rw [List.getElem?_eq_none (by omega), List.getElem?_eq_none (by omega)]
     | some c =>
      have hi := (List.getElem?_eq_some_iff.1 hx).1
      have q1 : us[i]? = some us[i] := List.getElem?_eq_getElem (by omega)
      have q2 : vs[i]? = some vs[i] := List.getElem?_eq_getElem (by omega)
      rw [q1, q2, (scal_val (hk c (List.mem_of_getElem? hx)) (r1 i c _ hx q1) (r2 i c _ hx q2)).1]
    refine ⟨by rw [e], ?_⟩
    rw [show (10000 : Nat) = 9999 + 1 from rfl]
    simp only [Instr.sameBits, BEq.rfl, Bool.true_and, List.all_eq_true]
    intro p hp
    obtain ⟨i, hi⟩ := List.getElem?_of_mem hp
    rw [List.getElem?_zip_eq_some] at hi
    obtain ⟨h1, h2⟩ := hi
    rw [h1] at h2
    obtain ⟨a, b⟩ := p
    cases h2
    simp only at h1 ⊢
    have q1 : us[i]? = some a := h1
    have hlt : i < xs.length := by have := (List.getElem?_eq_some_iff.1 q1).1; omega
    have hx : xs[i]? = some xs[i] := List.getElem?_eq_getElem hlt
    exact (scal_val (hk _ (List.mem_of_getElem? hx)) (r1 i _ _ hx q1) (r1 i _ _ hx q1)).2 9999
 ·have hs : k.scal = true := hk k (by cases k <;> first | exact absurd ⟨_, rfl⟩ ha | exact List.mem_singleton.2 rfl)
  exact ⟨(scal_val hs ru rv).1, (scal_val hs ru rv).2 10000⟩

theorem find_rep {t kt et : TypeId} (ht : P.underlying t = some (.map kt et)) {k : TV} {u : Value} (hk : keyOk P t k = true) (ru : RepT F k u) {es : Array MapEntry} {ents : List (TV × TV)} (hl : es.size = ents.length)
  (hr : ∀ (i : Nat) (p : TV × TV) (x : MapEntry), ents[i]? = some p → es[i]? = some x → keyOk P t p.1 = true ∧ RepT F p.1 x.key) :
  (∀ em, (Instr.checkKey em 10000 kt u).run P w = .ok () w) ∧
  (((Instr.findKey kt u es.toList).run P w = .ok none w ∧ ∀ p ∈ ents, p.1 ≠ k) ∨ ∃ j p x, ents[j]? = some p ∧ es[j]? = some x ∧ p.1 = k ∧ (∀ j' p', j' < j → ents[j']? = some p' → p'.1 ≠ k) ∧
   (Instr.findKey kt u es.toList).run P w = .ok (some (j, x.val)) w ∧ (Instr.keyThatStays x.key u).run P w = .ok u w) := by
 have hs : ∀ {k : TV}, keyOk P t k = true → keyB P kt k = true := fun {k} h => by unfold keyOk at h; rw [ht] at h; exact h
 refine ⟨fun em => run_checkKey' (hs hk) ru, ?_⟩
 have hd : ∃ d, P.underlying kt = some d := by
  have := (keyB_iff.1 (hs hk)).2
  cases hu : P.underlying kt with
  | some d => exact ⟨d, rfl⟩
  | none => rw [show (20 : Nat) = 19 + 1 from rfl] at this; simp [keyT, hu] at this
 obtain ⟨d, hd⟩ := hd
 have htup : ∀ vs, k ≠ .tup vs := by
  rintro vs rfl
  have := (keyB_iff.1 (hs hk)).1 (.tup vs) (by simp [TV.cells])
  cases this
 have fin : ∀ (j : Nat) (p : TV × TV) (x : MapEntry), ents[j]? = some p → es[j]? = some x → p.1 = k → (Instr.keyThatStays x.key u).run P w = .ok u w := by
  intro j p x q1 hx q3
  have hxr := (hr j p x q1 hx).2
  rw [q3] at hxr
  obtain ⟨e, e'⟩ := scalar_val (keyB_iff.1 (hs hk)).1 htup ru hxr
  rw [← e]
  simp [Instr.keyThatStays, e']
 have hq : ∀ (j : Nat) (p : TV × TV) (x : MapEntry), ents[j]? = some p → es.toList[j]? = some x → keyB P kt p.1 = true ∧ RepT F p.1 x.key := fun j p x a b => ⟨hs (hr j p x a (by simpa using b)).1, (hr j p x a (by simpa using b)).2⟩
 rcases findNow_rep hd (hs hk) ru es.toList ents 0 (by simpa using hl) hq with q | ⟨q1, q2⟩ | ⟨j, p, x, q1, q2, q3, q4, q5⟩
 ·rcases findAsking_rep (w := w) hd (hs hk) ru es.toList ents 0 (by simpa using hl) hq with ⟨q1, q2⟩ | ⟨j, p, x, q1, q2, q3, q4, q5⟩
  ·exact .inl ⟨by simp [Instr.findKey, run_underlying' hd, q, q1], q2⟩
  ·have hx : es[j]? = some x := by simpa using q2
   exact .inr ⟨j, p, x, q1, hx, q3, q4, by simp [Instr.findKey, run_underlying' hd, q, q5], fin j p x q1 hx q3⟩
 ·exact .inl ⟨by simp [Instr.findKey, run_underlying' hd, q1], q2⟩
 ·have hx : es[j]? = some x := by simpa using q2
  exact .inr ⟨j, p, x, q1, hx, q3, q4, by simp [Instr.findKey, run_underlying' hd, q5], fin j p x q1 hx q3⟩

theorem keyOk_int (t : TypeId) (k : IntKind) (n : Int) : keyOk P t (.int k n) = match P.underlying t with
 | some (.map kt _) => (match P.underlying kt with | some (.int k') => k == k' | _ => false)
 | _ => false := by
 unfold keyOk
 split
 ·rw [show (20 : Nat) = 19 + 1 from rfl]
  simp only [TV.cells, List.all_cons, List.all_nil, TV.scal, Bool.and_self, Bool.true_and, keyT]
  split <;> simp_all
 ·rename_i hx
  first
   | rfl
   | (split
      ·rename_i a b hh; exact absurd hh (hx a b)
      ·rfl)
theorem keyOk_bool (t : TypeId) (b : Bool) : keyOk P t (.bool b) = match P.underlying t with
 | some (.map kt _) => (match P.underlying kt with | some .bool => true | _ => false)
 | _ => false := by
 unfold keyOk
 split
 ·rw [show (20 : Nat) = 19 + 1 from rfl]
  simp only [TV.cells, List.all_cons, List.all_nil, TV.scal, Bool.and_self, Bool.true_and, keyT]
  split <;> simp_all
 ·rename_i hx
  first
   | rfl
   | (split
      ·rename_i a b hh; exact absurd hh (hx a b)
      ·rfl)
theorem keyOk_str (t : TypeId) (b : ByteArray) : keyOk P t (.str b) = match P.underlying t with
 | some (.map kt _) => (match P.underlying kt with | some .string => true | _ => false)
 | _ => false := by
 unfold keyOk
 split
 ·rw [show (20 : Nat) = 19 + 1 from rfl]
  simp only [TV.cells, List.all_cons, List.all_nil, TV.scal, Bool.and_self, Bool.true_and, keyT]
  split <;> simp_all
 ·rename_i hx
  first
   | rfl
   | (split
      ·rename_i a b hh; exact absurd hh (hx a b)
      ·rfl)

theorem lookT_none {ents : List (TV × TV)} {k : TV} (hn : ∀ p ∈ ents, p.1 ≠ k) : lookT ents k = none := by
 unfold lookT
 rw [List.find?_eq_none.2 (fun p hp => by simpa using hn p hp)]; rfl
theorem lookT_at : ∀ {ents : List (TV × TV)} {k : TV} {j : Nat} {p : TV × TV}, ents[j]? = some p → p.1 = k → (∀ j' p', j' < j → ents[j']? = some p' → p'.1 ≠ k) → lookT ents k = some p.2
 | [], k, j, p, h1, _, _ => by simp at h1
 | q :: ents, k, 0, p, h1, h2, _ => by
  simp at h1; subst h1
  simp [lookT, h2]
 | q :: ents, k, j + 1, p, h1, h2, h3 => by
  have hq := h3 0 q (by omega) rfl
  have := lookT_at (ents := ents) (k := k) (j := j) (p := p) (by simpa using h1) h2 (fun j' p' hj hp => h3 (j' + 1) p' (by omega) (by simpa using hp))
  unfold lookT at this ⊢
  rw [List.find?_cons_of_neg (by simpa using hq)]; exact this
theorem lookT_snoc {ents : List (TV × TV)} {k x : TV} (hn : ∀ p ∈ ents, p.1 ≠ k) : lookT (ents ++ [(k, x)]) = updT (lookT ents) k x := by
 funext k'
 unfold updT
 split
 ·rename_i e; subst e
  unfold lookT
  rw [List.find?_append, List.find?_eq_none.2 (fun p hp => by simpa using hn p hp)]
  simp
 ·rename_i e
  unfold lookT
  rw [List.find?_append]
  simp [List.find?_cons, Ne.symm e]
theorem lookT_set : ∀ {ents : List (TV × TV)} {k x : TV} {j : Nat} {p : TV × TV}, ents[j]? = some p → p.1 = k → (∀ j' p', j' < j → ents[j']? = some p' → p'.1 ≠ k) → lookT (ents.set j (k, x)) = updT (lookT ents) k x
 | [], k, x, j, p, h1, _, _ => by simp at h1
 | q :: ents, k, x, 0, p, h1, h2, _ => by
  simp at h1; subst h1
  funext k'
  unfold updT
  by_cases e : k' = k
  ·subst e; simp [lookT]
  ·rw [if_neg e]
   simp only [List.set_cons_zero, lookT]
   rw [List.find?_cons_of_neg (by simp [Ne.symm e]), List.find?_cons_of_neg (by rw [h2]; simp [Ne.symm e])]
 | q :: ents, k, x, j + 1, p, h1, h2, h3 => by
  have hq := h3 0 q (by omega) rfl
  have ih := lookT_set (ents := ents) (k := k) (x := x) (j := j) (p := p) (by simpa using h1) h2 (fun j' p' hj hp => h3 (j' + 1) p' (by omega) (by simpa using hp))
  funext k'
  have ih' := congrFun ih k'
  unfold updT at ih' ⊢
  simp only [List.set_cons_succ]
  by_cases e : q.1 = k'
  ·have hne : ¬ k' = k := by rintro rfl; exact hq e
   rw [if_neg hne]
   simp [lookT, e]
  ·have c1 : ∀ l, lookT (q :: l) k' = lookT l k' := fun l => by unfold lookT; rw [List.find?_cons_of_neg (by simpa using e)]
   rw [c1, c1]; exact ih'

theorem sim_lookup (H : RH P C F φ h w) {t kt et id : TypeId} {ok : Bool} {k z : TV} {u um : Value} {f : TV → Option TV} (ht : mapO P t = some (kt, et)) (hid : h id = .mp t f) (hz : zeroT P et = some z) (hk : keyOk P t k = true) (hm : RepP F φ h (.mapr id) um) (ru : RepT F k u) :
  Sim P C h (((do pure (Next.value (← Instr.lookup t um u ok))) : Sem Next).run P w) (.t (if ok then .tup [(f k).getD z, .bool (f k).isSome] else (f k).getD z)) [] := by
 have ht' := mapO_some ht
 obtain ⟨t', _, rfl⟩ := hm
 have hob := H.objs id
 rw [hid] at hob
 obtain ⟨es, clock, ents, h1, h2, h3, h4, h5⟩ := hob
 obtain ⟨zv, hzr, hzv⟩ := zeroT_rep (F := F) (w := w) hz
 obtain ⟨c1, c2⟩ := find_rep (w := w) ht' hk ru h2 (fun i p x a b => ⟨(h4 i p x a b).1, (h4 i p x a b).2.1⟩)
 have hgo := MapKept.run_getObj_map (P := P) h1
 have key : ∀ (x : TV) (v : Value) (b : Bool), RepT F x v → Sim P C h (.ok (.value (if ok then .tuple #[v, .bool b] else v)) w) (.t (if ok then .tup [x, .bool b] else x)) [] := by
  intro x v b hx
  cases ok with
  | true => exact Sim.quiet H (u := .tuple #[v, .bool b]) (by simp) (RepT.tup [x, .bool b] [v, .bool b] rfl (fun i c u hc hu => by
    match i with
    | 0 => simp at hc hu; subst hc; subst hu; exact hx
    | 1 => simp at hc hu; subst hc; subst hu; exact RepT.bool b
    | (i + 2) => simp at hc))
  | false => exact Sim.quiet H (u := v) (by simp) hx
 rcases c2 with ⟨q1, q2⟩ | ⟨j, p, x, q1, q2, q3, q4, q5, q6⟩
 ·have e : f k = none := by rw [h3]; exact lookT_none q2
  have hrun : (((do pure (Next.value (← Instr.lookup t (.map (some (φ id).1)) u ok))) : Sem Next).run P w) = .ok (.value (if ok then .tuple #[zv, .bool false] else zv)) w := by
   simp [Instr.lookup, run_underlying' ht', hgo, c1, q1, hzr]
  rw [hrun, e]
  exact key z zv false hzv
 ·have e : f k = some p.2 := by rw [h3]; exact lookT_at q1 q3 q4
  have hrun : (((do pure (Next.value (← Instr.lookup t (.map (some (φ id).1)) u ok))) : Sem Next).run P w) = .ok (.value (if ok then .tuple #[x.val, .bool true] else x.val)) w := by
   simp [Instr.lookup, run_underlying' ht', hgo, c1, q5]
  rw [hrun, e]
  exact key p.2 x.val true (h4 j p x q1 q2).2.2

theorem sim_lookup_nil (H : RH P C F φ h w) {t kt et : TypeId} {ok : Bool} {k z : TV} {u : Value} (ht : mapO P t = some (kt, et)) (hz : zeroT P et = some z) (hk : keyOk P t k = true) (ru : RepT F k u) :
  Sim P C h (((do pure (Next.value (← Instr.lookup t (.map none) u ok))) : Sem Next).run P w) (.t (if ok then .tup [z, .bool false] else z)) [] := by
 have ht' := mapO_some ht
 obtain ⟨zv, hzr, hzv⟩ := zeroT_rep (F := F) (w := w) hz
 obtain ⟨c1, c2⟩ := find_rep (w := w) (es := #[]) (ents := []) ht' hk ru rfl (fun i p x hp => by simp at hp)
 rcases c2 with ⟨q1, q2⟩ | ⟨j, p, x, q1, _⟩
 ·have hrun : (((do pure (Next.value (← Instr.lookup t (.map none) u ok))) : Sem Next).run P w) = .ok (.value (if ok then .tuple #[zv, .bool false] else zv)) w := by
   simp only [List.toList_toArray] at q1
   simp [Instr.lookup, run_underlying' ht', c1, q1, hzr]
  rw [hrun]
  cases ok with
  | true => exact Sim.quiet H (u := .tuple #[zv, .bool false]) (by simp) (RepT.tup [z, .bool false] [zv, .bool false] rfl (fun i c u hc hu => by
    match i with
    | 0 => simp at hc hu; subst hc; subst hu; exact hzv
    | 1 => simp at hc hu; subst hc; subst hu; exact RepT.bool false
    | (i + 2) => simp at hc))
  | false => exact Sim.quiet H (u := zv) (by simp) hzv
 ·simp at q1

theorem sim_update (H : RH P C F φ h w) {t : TypeId} {m k x v : PV} {um uk ux : Value} {W : Wr} (hv : updateO P t m k x h = some (v, W)) (hm : RepP F φ h m um) (hk : RepP F φ h k uk) (hx : RepP F φ h x ux) :
  Sim P C h (((do Instr.mapUpdate t um uk ux; pure .skip) : Sem Next).run P w) v W := by
 unfold updateO at hv
 split at hv
 ·rename_i id k' x' hk' hx'
  split at hv
  ·rename_i t' f hid
   split at hv
   ·rename_i hc
    obtain ⟨rfl, hko⟩ := hc
    cases hv
    have ru := PV.toT_rep hk' hk
    have rx := PV.toT_rep hx' hx
    obtain ⟨t2, _, rfl⟩ := hm
    have hob := H.objs id
    rw [hid] at hob
    obtain ⟨es, clock, ents, h1, h2, h3, h4, h5⟩ := hob
    have ht : ∃ kt et, P.underlying t' = some (.map kt et) := by
     unfold keyOk at hko
     split at hko
     ·rename_i kt et hu; exact ⟨kt, et, hu⟩
     ·cases hko
    obtain ⟨kt, et, ht⟩ := ht
    obtain ⟨c1, c2⟩ := find_rep (w := w) ht hko ru h2 (fun i p x a b => ⟨(h4 i p x a b).1, (h4 i p x a b).2.1⟩)
    have hgo := MapKept.run_getObj_map (P := P) h1
    have hlv : (h id).live = true := by rw [hid]; rfl
    have hs := HStep.map (φ := φ) (m' := updT f k' x') hid
    have fin : ∀ (es' : Array MapEntry) (clock' : Nat) (ents' : List (TV × TV)), (Instr.mapUpdate t' (.map (some (φ id).1)) uk ux).run P w = .ok () (ChangeMaps.setBlock w (φ id).1 (.map es' clock')) → es'.size = ents'.length → updT f k' x' = lookT ents' →
      (∀ (i : Nat) (p : TV × TV) (x : MapEntry), ents'[i]? = some p → es'[i]? = some x → keyOk P t' p.1 = true ∧ RepT F p.1 x.key ∧ RepT F p.2 x.val) →
      Sim P C h (((do Instr.mapUpdate t' (.map (some (φ id).1)) uk ux; pure .skip) : Sem Next).run P w) (.t (.tup [])) [(id, .mp t' (updT f k' x'))] := by
     intro es' clock' ents' hrun e1 e2 e3
     have hoth : ∀ b, b ≠ (φ id).1 → (ChangeMaps.setBlock w (φ id).1 (.map es' clock')).heap[b]? = w.heap[b]? := fun b hb => ChangeMaps.heap_setBlock_other h1 _ hb
     have := H.put (w' := ChangeMaps.setBlock w (φ id).1 (.map es' clock')) (F' := F) (rid := id) (.mp t' (updT f k' x')) (φ id) (by rw [upd_self]; exact hs) (Fz.le_refl _) (fun a u hu => ?_) (fun a u h5 h6 => by rw [h5] at h6; cases h6)
      ⟨rfl, rfl, rfl, by simp [ChangeMaps.setBlock], fun b _ hb => hoth b (fun e => hb ⟨e, hlv⟩)⟩ (.inr ⟨rfl, hlv⟩) ⟨es', clock', ents', by rw [upd_self]; exact ChangeMaps.heap_setBlock_same h1 _, e1, e2, e3, by rw [upd_self]; exact h5⟩
     ·rw [upd_self] at this
      refine ⟨F, φ, undef, _, .inr ⟨?_, rfl⟩, this, .tup [] [] rfl (by simp)⟩
      simp only [Sem.run_bind, hrun, Result.andThen_ok, Sem.run_pure]
     ·have hne : a.block ≠ (φ id).1 := by
       intro e
       rw [h5 a e] at hu; cases hu
      rw [look_same (hoth _ hne)]; exact H.agree _ _ hu
    rcases c2 with ⟨q1, q2⟩ | ⟨j, p, x0, q1, q2, q3, q4, q5, q6⟩
    ·refine fin (es.push ⟨uk, ux, clock⟩) (clock + 1) (ents ++ [(k', x')]) ?_ (by simp [h2]) (by rw [h3, lookT_snoc q2]) (fun i p x hp hx => ?_)
     ·simp [Instr.mapUpdate, run_underlying' ht, hgo, c1, q1, MapKept.run_setObj_map _ h1, ChangeMaps.setBlock]
     ·by_cases hi : i < ents.length
      ·rw [List.getElem?_append_left hi] at hp
       rw [Array.getElem?_push_lt (by omega)] at hx
       exact h4 i p x hp (by rw [Array.getElem?_eq_getElem (by omega)]; exact hx)
      ·have hi' : i = ents.length := by have := (List.getElem?_eq_some_iff.1 hp).1; simp at this; omega
       subst hi'
       rw [List.getElem?_append_right (Nat.le_refl _)] at hp
       simp at hp; subst hp
       rw [← h2] at hx
       simp at hx; subst hx
       exact ⟨hko, ru, rx⟩
    ·refine fin (es.modify j fun e => { e with key := uk, val := ux }) clock (ents.set j (k', x')) ?_ (by simp [h2]) (by rw [h3, lookT_set q1 q3 q4]) (fun i p x hp hx => ?_)
     ·simp [Instr.mapUpdate, run_underlying' ht, hgo, c1, q5, q2, q6, MapKept.run_setObj_map _ h1, ChangeMaps.setBlock]
     ·rw [Array.getElem?_modify] at hx
      by_cases hi : i = j
      ·subst hi
       have hlt : i < ents.length := (List.getElem?_eq_some_iff.1 q1).1
       rw [List.getElem?_set_self hlt] at hp; cases hp
       rw [if_pos rfl, q2] at hx
       simp at hx; subst hx
       exact ⟨hko, ru, rx⟩
      ·rw [List.getElem?_set_ne (Ne.symm hi)] at hp
       rw [if_neg (Ne.symm hi)] at hx
       exact h4 i p x hp hx
   ·cases hv
  ·cases hv
 ·cases hv

/-! ### Maps of rows by numbers -/
theorem intMap_some {t : TypeId} (h : intMap P t = true) : ∃ kt et, P.underlying t = some (.map kt et) ∧ (∀ n, keyOk P t (.int .i64 n) = true) ∧ zeroT P et = some .nilSl := by
 unfold intMap at h
 split at h
 ·rename_i kt et hm
  split at h
  ·rename_i hk hz
   have hu := mapO_some hm
   refine ⟨kt, et, hu, fun n => ?_, hz⟩
   have hk' : P.underlying kt = some (.int .i64) := by
    unfold kindO at hk
    split at hk
    ·rename_i k hk2; simp at hk; rw [hk2, hk]
    ·cases hk
   rw [keyOk_int, hu]
   simp [hk']
  ·cases h
 ·cases h
theorem lookI_none {kv : List (Int × Value)} {i : Int} (h : ∀ q ∈ kv, q.1 ≠ i) : lookI kv i = .slice none 0 0 := by
 unfold lookI
 rw [List.find?_eq_none.2 (fun q hq => by simpa using h q hq)]
theorem lookI_at : ∀ {kv : List (Int × Value)} {i : Int} {j : Nat} {q : Int × Value}, kv[j]? = some q → q.1 = i → (∀ j' q', j' < j → kv[j']? = some q' → q'.1 ≠ i) → lookI kv i = q.2
 | [], _, _, _, h, _, _ => by simp at h
 | a :: kv, i, 0, q, h1, h2, _ => by simp at h1; subst h1; simp [lookI, h2]
 | a :: kv, i, j + 1, q, h1, h2, h3 => by
  have ha := h3 0 a (by omega) rfl
  have := lookI_at (kv := kv) (i := i) (j := j) (q := q) (by simpa using h1) h2 (fun j' q' hj hq => h3 (j' + 1) q' (by omega) (by simpa using hq))
  unfold lookI at this ⊢
  rw [List.find?_cons_of_neg (by simpa using ha)]; exact this
theorem lookI_snoc {kv : List (Int × Value)} {i : Int} {v : Value} (h : ∀ q ∈ kv, q.1 ≠ i) (k : Int) : lookI (kv ++ [(i, v)]) k = if k = i then v else lookI kv k := by
 unfold lookI
 by_cases e : k = i
 ·subst e
  rw [List.find?_append, List.find?_eq_none.2 (fun q hq => by simpa using h q hq)]
  simp
 ·rw [if_neg e, List.find?_append]
  cases hf : kv.find? fun p => p.1 == k with
  | some q => simp
  | none => simp [Ne.symm e]
theorem lookI_set : ∀ {kv : List (Int × Value)} {i : Int} {v : Value} {j : Nat} {q : Int × Value}, kv[j]? = some q → q.1 = i → (∀ j' q', j' < j → kv[j']? = some q' → q'.1 ≠ i) → ∀ k, lookI (kv.set j (i, v)) k = if k = i then v else lookI kv k
 | [], _, _, _, _, h, _, _, _ => by simp at h
 | a :: kv, i, v, 0, q, h1, h2, _, k => by
  simp at h1; subst h1
  by_cases e : k = i
  ·subst e; simp [lookI]
  ·rw [if_neg e]
   simp only [List.set_cons_zero, lookI]
   rw [List.find?_cons_of_neg (by simp [Ne.symm e]), List.find?_cons_of_neg (by rw [h2]; simp [Ne.symm e])]
 | a :: kv, i, v, j + 1, q, h1, h2, h3, k => by
  have ha := h3 0 a (by omega) rfl
  have ih := lookI_set (kv := kv) (i := i) (v := v) (j := j) (q := q) (by simpa using h1) h2 (fun j' q' hj hq => h3 (j' + 1) q' (by omega) (by simpa using hq)) k
  simp only [List.set_cons_succ]
  by_cases e : a.1 = k
  ·have hne : ¬ k = i := by rintro rfl; exact ha e
   rw [if_neg hne]
   simp [lookI, e]
  ·have c1 : ∀ l, lookI (a :: l) k = lookI l k := fun l => by unfold lookI; rw [List.find?_cons_of_neg (by simpa using e)]
   rw [c1, c1]; exact ih

theorem findI {t : TypeId} (hi : intMap P t = true) {es : Array MapEntry} {kv : List (Int × Value)} (h2 : (es.toList.map fun e => (e.key, e.val)) = (kv.map fun p => (Value.int .i64 p.1, p.2))) (i : Int) :
  ∃ kt et zv, P.underlying t = some (.map kt et) ∧ (zeroValue et).run P w = .ok zv w ∧ zv = .slice none 0 0 ∧ (∀ em, (Instr.checkKey em 10000 kt (.int .i64 i)).run P w = .ok () w) ∧
  (((Instr.findKey kt (.int .i64 i) es.toList).run P w = .ok none w ∧ ∀ q ∈ kv, q.1 ≠ i) ∨ ∃ j q x, kv[j]? = some q ∧ es[j]? = some x ∧ x.val = q.2 ∧ q.1 = i ∧ (∀ j' q', j' < j → kv[j']? = some q' → q'.1 ≠ i) ∧
   (Instr.findKey kt (.int .i64 i) es.toList).run P w = .ok (some (j, x.val)) w ∧ (Instr.keyThatStays x.key (.int .i64 i)).run P w = .ok (.int .i64 i) w) := by
 obtain ⟨kt, et, hu, hk, hz⟩ := intMap_some hi
 obtain ⟨zv, hzr, hzv⟩ := zeroT_rep (F := fun _ => none) (w := w) hz
 have hlen : es.size = kv.length := by have := congrArg List.length h2; simpa using this
 have hat : ∀ (j : Nat) (q : Int × Value) (x : MapEntry), kv[j]? = some q → es[j]? = some x → x.key = .int .i64 q.1 ∧ x.val = q.2 := by
  intro j q x hq hx
  have := congrArg (fun l => l[j]?) h2
  simp only [List.getElem?_map, Array.getElem?_toList, hq, hx, Option.map_some, Option.some.injEq, Prod.mk.injEq] at this
  exact this
 obtain ⟨c1, c2⟩ := find_rep (w := w) (F := fun _ => none) (ents := kv.map fun q => (TV.int .i64 q.1, TV.nilSl)) hu (hk i) (.int .i64 i) (es := es) (by simpa using hlen) (fun j p x hp hx => by
  simp only [List.getElem?_map, Option.map_eq_some_iff] at hp
  obtain ⟨q, hq, rfl⟩ := hp
  exact ⟨hk q.1, by rw [(hat j q x hq hx).1]; exact .int _ _⟩)
 refine ⟨kt, et, zv, hu, hzr, by cases hzv; rfl, c1, ?_⟩
 rcases c2 with ⟨q1, q2⟩ | ⟨j, p, x, q1, q2, q3, q4, q5, q6⟩
 ·exact .inl ⟨q1, fun q hq e => q2 (.int .i64 q.1, .nilSl) (List.mem_map.2 ⟨q, hq, rfl⟩) (by rw [e])⟩
 ·simp only [List.getElem?_map, Option.map_eq_some_iff] at q1
  obtain ⟨q, hq, rfl⟩ := q1
  refine .inr ⟨j, q, x, hq, q2, (hat j q x hq q2).2, by simpa using q3, fun j' q' hj hq' e => ?_, q5, q6⟩
  exact q4 j' (.int .i64 q'.1, .nilSl) hj (by simp [hq']) (by rw [e])

theorem sim_makeMapO (H : RH P C F φ h w) {t : TypeId} {rid : Nat} (hres : h rid = .res) :
  Sim P C h (((do pure (Next.value (← Instr.makeMap t none))) : Sem Next).run P w) (.mapr rid) [(rid, .mpo t (List.replicate 12 (.t .nilSl)))] := by
 have hs := HStep.put (φ := φ) hres (w.heap.size, 0) (.mpo t (List.replicate 12 (.t .nilSl)))
 refine ⟨F, upd φ rid (w.heap.size, 0), .map (some w.heap.size), w.alloc (.map #[] 0), .inl ?_, H.put _ _ hs (Fz.le_refl _) (agree_alloc H _) (fun a u h1 h2 => by rw [h1] at h2; cases h2) (Below.bel (below_alloc _ _)) (.inl (Nat.le_refl _)) ?_, t, by rw [show wr h [(rid, PO.mpo t (List.replicate 12 (.t .nilSl)))] rid = _ from upo_same _ _ _]; rfl, by rw [upd_same]⟩
 ·simp only [Sem.run_bind, run_makeMap, Result.andThen_ok, Sem.run_pure]
 ·refine ⟨#[], 0, [], by rw [upd_same]; exact alloc_new _ _, rfl, fun i p hp => ?_, fun a ha => by rw [upd_same] at ha; exact F_none_newA H a (Nat.le_of_eq ha.symm)⟩
  rw [List.getElem?_replicate] at hp
  split at hp
  ·cases hp; exact .nilSl
  ·cases hp

theorem sim_lookM (H : RH P C F φ h w) {t id : Nat} {i : Int} {v : PV} {W : Wr} {um : Value} (hv : lookM P t i (h id) = some (v, W)) (hm : RepP F φ h (.mapr id) um) :
  Sim P C h (((do pure (Next.value (← Instr.lookup t um (.int .i64 i) false))) : Sem Next).run P w) v W := by
 unfold lookM at hv
 split at hv
 ·rename_i t' ps hid
  split at hv
  ·rename_i hc
   obtain ⟨rfl, hi, h0⟩ := hc
   simp only [Option.map_eq_some_iff] at hv
   obtain ⟨p, hp, he⟩ := hv
   simp only [Prod.mk.injEq] at he
   obtain ⟨rfl, rfl⟩ := he
   have hob := H.objs id
   rw [hid] at hob
   obtain ⟨es, clock, kv, h1, h2, h3, h4⟩ := hob
   obtain ⟨_, _, rfl⟩ := hm
   have hrep := h3 i.toNat p hp
   rw [Int.toNat_of_nonneg h0] at hrep
   obtain ⟨kt, et, zv, hu, hzr, hzv, c1, c2⟩ := findI (w := w) hi h2 i
   have hgo := MapKept.run_getObj_map (P := P) h1
   rcases c2 with ⟨q1, q2⟩ | ⟨j, q, x, q1, q2, q3, q4, q5, q6, q7⟩
   ·rw [lookI_none q2, ← hzv] at hrep
    refine Sim.quiet H (u := zv) ?_ hrep
    simp [Instr.lookup, run_underlying' hu, hgo, c1, q1, hzr]
   ·rw [lookI_at q1 q4 q5, ← q3] at hrep
    refine Sim.quiet H (u := x.val) ?_ hrep
    simp [Instr.lookup, run_underlying' hu, hgo, c1, q6]
  ·cases hv
 ·cases hv

theorem sim_lookF (H : RH P C F φ h w) {t : TypeId} {i : Int} {vs : List TV} {x : TV} {um : Value} (hi : intMap P t = true) (h0 : 0 ≤ i) (hx : vs[i.toNat]? = some x) (hm : RepT F (.imap t vs) um) :
  Sim P C h (((do pure (Next.value (← Instr.lookup t um (.int .i64 i) false))) : Sem Next).run P w) (.t x) [] := by
 cases hm with
 | imap _ _ b kv us f1 f2 f3 f4 =>
  have hlk := H.agree _ _ f1
  have hlt : i.toNat < us.length := by rw [f2]; exact (List.getElem?_eq_some_iff.1 hx).1
  have hui : us[i.toNat]? = some us[i.toNat] := List.getElem?_eq_getElem hlt
  have hrep := f4 _ x _ hx hui
  rw [f3 _ _ hui, Int.toNat_of_nonneg h0] at hrep
  obtain ⟨es, clock, h1, h2⟩ : ∃ es clock, w.heap[b]? = some (.map es clock) ∧ (es.toList.map fun e => (e.key, e.val)) = (kv.map fun p => (Value.int .i64 p.1, p.2)) := by
   unfold look at hlk
   simp only at hlk
   split at hlk
   ·simp at hlk
   ·rename_i es clock hb
    refine ⟨es, clock, hb, ?_⟩
    simp only [and_self, if_true, Option.some.injEq] at hlk
    unfold mapV at hlk
    have e1 := congrArg (fun v => match v with | Value.tuple a => a.toList.map (fun p => match p with | Value.tuple q => (q[0]!, q[1]!) | _ => (undef, undef)) | _ => []) hlk
    simp only [List.map_map] at e1
    exact e1
   ·cases hlk
  obtain ⟨kt, et, zv, hu, hzr, hzv, c1, c2⟩ := findI (w := w) hi h2 i
  have hgo := MapKept.run_getObj_map (P := P) h1
  rcases c2 with ⟨q1, q2⟩ | ⟨j, q, x', q1, q2, q3, q4, q5, q6, q7⟩
  ·rw [lookI_none q2, ← hzv] at hrep
   refine Sim.quiet H (u := zv) ?_ hrep
   simp [Instr.lookup, run_underlying' hu, hgo, c1, q1, hzr]
  ·rw [lookI_at q1 q4 q5, ← q3] at hrep
   refine Sim.quiet H (u := x'.val) ?_ hrep
   simp [Instr.lookup, run_underlying' hu, hgo, c1, q6]

theorem HStep.mapo {id t : Nat} {ps ps' : List PV} (hid : h id = .mpo t ps) : HStep φ φ h (upo h id (.mpo t ps')) := by
 have := HStep.one (φ := φ) (h := h) (id := id) (o := .mpo t ps') (φ id) (by rw [hid]; exact ⟨rfl, rfl⟩)
 rwa [upd_self] at this
theorem sim_updM (H : RH P C F φ h w) {t id : Nat} {i : Int} {x v : PV} {W : Wr} {um ux : Value} (hv : updM P t id i x (h id) = some (v, W)) (hm : RepP F φ h (.mapr id) um) (hx : RepP F φ h x ux) :
  Sim P C h (((do Instr.mapUpdate t um (.int .i64 i) ux; pure .skip) : Sem Next).run P w) v W := by
 unfold updM at hv
 split at hv
 ·rename_i t' ps hid
  split at hv
  ·rename_i hc
   obtain ⟨rfl, hi, h0⟩ := hc
   simp only [Option.some.injEq, Prod.mk.injEq] at hv
   obtain ⟨rfl, rfl⟩ := hv
   have hob := H.objs id
   rw [hid] at hob
   obtain ⟨es, clock, kv, h1, h2, h3, h4⟩ := hob
   obtain ⟨_, _, rfl⟩ := hm
   obtain ⟨kt, et, zv, hu, hzr, hzv, c1, c2⟩ := findI (w := w) hi h2 i
   have hgo := MapKept.run_getObj_map (P := P) h1
   have hlv : (h id).live = true := by rw [hid]; rfl
   have hs := HStep.mapo (φ := φ) (ps' := ps.set i.toNat x) hid
   have fin : ∀ (es' : Array MapEntry) (clock' : Nat) (kv' : List (Int × Value)), (Instr.mapUpdate t' (.map (some (φ id).1)) (.int .i64 i) ux).run P w = .ok () (ChangeMaps.setBlock w (φ id).1 (.map es' clock')) →
     (es'.toList.map fun e => (e.key, e.val)) = (kv'.map fun p => (Value.int .i64 p.1, p.2)) → (∀ k, lookI kv' k = if k = i then ux else lookI kv k) →
     Sim P C h (((do Instr.mapUpdate t' (.map (some (φ id).1)) (.int .i64 i) ux; pure .skip) : Sem Next).run P w) (.t (.tup [])) [(id, .mpo t' (ps.set i.toNat x))] := by
    intro es' clock' kv' hrun e1 e2
    have hoth : ∀ b, b ≠ (φ id).1 → (ChangeMaps.setBlock w (φ id).1 (.map es' clock')).heap[b]? = w.heap[b]? := fun b hb => ChangeMaps.heap_setBlock_other h1 _ hb
    have := H.put (w' := ChangeMaps.setBlock w (φ id).1 (.map es' clock')) (F' := F) (rid := id) (.mpo t' (ps.set i.toNat x)) (φ id) (by rw [upd_self]; exact hs) (Fz.le_refl _) (fun a u hu => ?_) (fun a u h5 h6 => by rw [h5] at h6; cases h6)
     ⟨rfl, rfl, rfl, by simp [ChangeMaps.setBlock], fun b _ hb => hoth b (fun e => hb ⟨e, hlv⟩)⟩ (.inr ⟨rfl, hlv⟩) ⟨es', clock', kv', by rw [upd_self]; exact ChangeMaps.heap_setBlock_same h1 _, e1, fun j p hp => ?_, by rw [upd_self]; exact h4⟩
    ·rw [upd_self] at this
     refine ⟨F, φ, undef, _, .inr ⟨?_, rfl⟩, this, .tup [] [] rfl (by simp)⟩
     simp only [Sem.run_bind, hrun, Result.andThen_ok, Sem.run_pure]
    ·have hne : a.block ≠ (φ id).1 := by
      intro e
      rw [h4 a e] at hu; cases hu
     rw [look_same (hoth _ hne)]; exact H.agree _ _ hu
    ·rw [upd_self, e2]
     by_cases hj : j = i.toNat
     ·subst hj
      have hlt : i.toNat < ps.length := by have := (List.getElem?_eq_some_iff.1 hp).1; simpa using this
      rw [List.getElem?_set_self hlt] at hp; cases hp
      rw [if_pos (Int.toNat_of_nonneg h0)]
      exact hx.step hs
     ·rw [List.getElem?_set_ne (Ne.symm hj)] at hp
      rw [if_neg (by omega)]
      exact (h3 j p hp).step hs
   rcases c2 with ⟨q1, q2⟩ | ⟨j, q, x0, q1, q2, q3, q4, q5, q6, q7⟩
   ·refine fin (es.push ⟨.int .i64 i, ux, clock⟩) (clock + 1) (kv ++ [(i, ux)]) ?_ (by simp [h2]) (lookI_snoc q2)
    simp [Instr.mapUpdate, run_underlying' hu, hgo, c1, q1, MapKept.run_setObj_map _ h1, ChangeMaps.setBlock]
   ·refine fin (es.modify j fun e => { e with key := .int .i64 i, val := ux }) clock (kv.set j (i, ux)) ?_ ?_ (lookI_set q1 q4 q5)
    ·simp [Instr.mapUpdate, run_underlying' hu, hgo, c1, q6, q2, q7, MapKept.run_setObj_map _ h1, ChangeMaps.setBlock]
    ·have hat : ∀ (k : Nat), (es[k]?).map (fun (e : MapEntry) => (e.key, e.val)) = (kv[k]?).map (fun (p : Int × Value) => (Value.int .i64 p.1, p.2)) := fun k => by
      have := congrArg (fun l => l[k]?) h2
      simpa using this
     apply List.ext_getElem?
     intro k
     simp only [List.getElem?_map, Array.getElem?_toList, Array.getElem?_modify]
     have hk := hat k
     by_cases hkj : j = k
     ·subst hkj
      rw [if_pos rfl, List.getElem?_set_self (List.getElem?_eq_some_iff.1 q1).1, q2]; rfl
     ·rw [if_neg hkj, List.getElem?_set_ne hkj]; exact hk
  ·cases hv
 ·cases hv

theorem ptrMap_some {t : TypeId} (h : ptrMap P t = true) : ∃ kt et, mapO P t = some (kt, et) ∧ zeroT P et = some .nilPtr := by
 unfold ptrMap at h
 split at h
 ·rename_i kt et hm
  split at h
  ·rename_i hz; exact ⟨kt, et, hm, hz⟩
  ·cases h
 ·cases h
theorem findK_none : ∀ {ks : List TV} {ps : List PV} {k : TV}, (∀ q ∈ ks, q ≠ k) → findK ks ps k = .t .nilPtr
 | [], _, _, _ => by unfold findK; rfl
 | q :: ks, [], _, _ => by unfold findK; rfl
 | q :: ks, p :: ps, k, h => by
  unfold findK
  rw [if_neg (h q List.mem_cons_self)]
  exact findK_none fun q hq => h q (List.mem_cons_of_mem _ hq)
theorem findK_at : ∀ {ks : List TV} {ps : List PV} {k : TV} {j : Nat} {p : PV}, ks[j]? = some k → ps[j]? = some p → (∀ j' q', j' < j → ks[j']? = some q' → q' ≠ k) → findK ks ps k = p
 | q :: ks, p0 :: ps, k, 0, p, h1, h2, _ => by
  simp at h1 h2; subst h1; subst h2
  unfold findK; rw [if_pos rfl]
 | q :: ks, p0 :: ps, k, j + 1, p, h1, h2, h3 => by
  unfold findK
  rw [if_neg (h3 0 q (by omega) rfl)]
  exact findK_at (j := j) (by simpa using h1) (by simpa using h2) fun j' q' hj hq => h3 (j' + 1) q' (by omega) (by simpa using hq)
 | [], _, _, _, _, h1, _, _ => by simp at h1
 | q :: ks, [], _, _, _, _, h2, _ => by simp at h2
theorem setK_none : ∀ {ks : List TV} {ps : List PV} {k : TV} {x : PV}, ps.length = ks.length → (∀ q ∈ ks, q ≠ k) → setK ks ps k x = (ks ++ [k], ps ++ [x])
 | [], [], _, _, _, _ => by unfold setK; rfl
 | [], _ :: _, _, _, h, _ => by simp at h
 | _ :: _, [], _, _, h, _ => by simp at h
 | q :: ks, p :: ps, k, x, hl, h => by
  unfold setK
  rw [if_neg (h q List.mem_cons_self), setK_none (by simpa using hl) fun q hq => h q (List.mem_cons_of_mem _ hq)]
  rfl
theorem setK_at : ∀ {ks : List TV} {ps : List PV} {k : TV} {x : PV} {j : Nat}, ps.length = ks.length → ks[j]? = some k → (∀ j' q', j' < j → ks[j']? = some q' → q' ≠ k) → setK ks ps k x = (ks, ps.set j x)
 | q :: ks, p0 :: ps, k, x, 0, _, h1, _ => by
  simp at h1; subst h1
  unfold setK; rw [if_pos rfl]; rfl
 | q :: ks, p0 :: ps, k, x, j + 1, hl, h1, h3 => by
  unfold setK
  rw [if_neg (h3 0 q (by omega) rfl), setK_at (j := j) (by simpa using hl) (by simpa using h1) fun j' q' hj hq => h3 (j' + 1) q' (by omega) (by simpa using hq)]
  rfl
 | [], _, _, _, _, _, h1, _ => by simp at h1
 | q :: ks, [], _, _, _, hl, _, _ => by simp at hl
theorem sim_makeMapK (H : RH P C F φ h w) {t : TypeId} {rid : Nat} (hres : h rid = .res) :
  Sim P C h (((do pure (Next.value (← Instr.makeMap t none))) : Sem Next).run P w) (.mapr rid) [(rid, .mpk t [] [])] := by
 have hs := HStep.put (φ := φ) hres (w.heap.size, 0) (.mpk t [] [])
 refine ⟨F, upd φ rid (w.heap.size, 0), .map (some w.heap.size), w.alloc (.map #[] 0), .inl ?_, H.put _ _ hs (Fz.le_refl _) (agree_alloc H _) (fun a u h1 h2 => by rw [h1] at h2; cases h2) (Below.bel (below_alloc _ _)) (.inl (Nat.le_refl _)) ?_, t, by rw [show wr h [(rid, PO.mpk t [] [])] rid = _ from upo_same _ _ _]; rfl, by rw [upd_same]⟩
 ·simp only [Sem.run_bind, run_makeMap, Result.andThen_ok, Sem.run_pure]
 ·exact ⟨#[], 0, by rw [upd_same]; exact alloc_new _ _, rfl, rfl, fun i k x hk => by simp at hk, fun i p x hp => by simp at hp, fun a ha => by rw [upd_same] at ha; exact F_none_newA H a (Nat.le_of_eq ha.symm)⟩
theorem findKs {t : TypeId} {k : TV} {u : Value} (hk : keyOk P t k = true) (ru : RepT F k u) {es : Array MapEntry} {ks : List TV} (hl : es.size = ks.length)
  (hr : ∀ (i : Nat) (q : TV) (x : MapEntry), ks[i]? = some q → es[i]? = some x → keyOk P t q = true ∧ RepT F q x.key) :
  ∃ kt et, P.underlying t = some (.map kt et) ∧ (∀ em, (Instr.checkKey em 10000 kt u).run P w = .ok () w) ∧
  (((Instr.findKey kt u es.toList).run P w = .ok none w ∧ ∀ q ∈ ks, q ≠ k) ∨ ∃ j x, ks[j]? = some k ∧ es[j]? = some x ∧ (∀ j' q', j' < j → ks[j']? = some q' → q' ≠ k) ∧
   (Instr.findKey kt u es.toList).run P w = .ok (some (j, x.val)) w ∧ (Instr.keyThatStays x.key u).run P w = .ok u w) := by
 have ht : ∃ kt et, P.underlying t = some (.map kt et) := by
  have hko := hk
  unfold keyOk at hko
  split at hko
  ·rename_i kt et hu; exact ⟨kt, et, hu⟩
  ·cases hko
 obtain ⟨kt, et, hu⟩ := ht
 obtain ⟨c1, c2⟩ := find_rep (w := w) (F := F) (ents := ks.map fun q => (q, TV.nilSl)) hu hk ru (es := es) (by simpa using hl) (fun j p x hp hx => by
  simp only [List.getElem?_map, Option.map_eq_some_iff] at hp
  obtain ⟨q, hq, rfl⟩ := hp
  exact hr j q x hq hx)
 refine ⟨kt, et, hu, c1, ?_⟩
 rcases c2 with ⟨q1, q2⟩ | ⟨j, p, x, q1, q2, q3, q4, q5, q6⟩
 ·exact .inl ⟨q1, fun q hq => q2 (q, .nilSl) (List.mem_map.2 ⟨q, hq, rfl⟩)⟩
 ·simp only [List.getElem?_map, Option.map_eq_some_iff] at q1
  obtain ⟨q, hq, rfl⟩ := q1
  exact .inr ⟨j, x, by rw [hq, ← q3], q2, fun j' q' hj hq' => q4 j' (q', .nilSl) hj (by simp [hq']), q5, q6⟩
theorem sim_lookK (H : RH P C F φ h w) {t id : Nat} {k : TV} {v : PV} {W : Wr} {um uk : Value} (hv : lookK P t k (h id) = some (v, W)) (hm : RepP F φ h (.mapr id) um) (hk : RepT F k uk) :
  Sim P C h (((do pure (Next.value (← Instr.lookup t um uk false))) : Sem Next).run P w) v W := by
 unfold lookK at hv
 split at hv
 ·rename_i t' ks ps hid
  split at hv
  ·rename_i hc
   obtain ⟨rfl, hpm, hko⟩ := hc
   simp only [Option.some.injEq, Prod.mk.injEq] at hv
   obtain ⟨rfl, rfl⟩ := hv
   have hob := H.objs id
   rw [hid] at hob
   obtain ⟨es, clock, h1, h2, h3, h4, h5, h6⟩ := hob
   obtain ⟨_, _, rfl⟩ := hm
   obtain ⟨kt0, et0, hm0, hz⟩ := ptrMap_some hpm
   obtain ⟨kt, et, hu, c1, c2⟩ := findKs (w := w) hko hk h2 h4
   have hme : et0 = et := by
    have := mapO_some hm0
    rw [hu] at this
    simp only [Option.some.injEq, TypeDesc.map.injEq] at this
    exact this.2.symm
   subst hme
   obtain ⟨zv, hzr, hzv⟩ := zeroT_rep (F := F) (w := w) hz
   have hgo := MapKept.run_getObj_map (P := P) h1
   rcases c2 with ⟨q1, q2⟩ | ⟨j, x, q1, q2, q4, q5, q6⟩
   ·rw [findK_none q2]
    refine Sim.quiet H (u := zv) ?_ hzv
    simp [Instr.lookup, run_underlying' hu, hgo, c1, q1, hzr]
   ·have hj : j < ps.length := by rw [h3]; exact (List.getElem?_eq_some_iff.1 q1).1
    have hp := List.getElem?_eq_getElem hj
    rw [findK_at q1 hp q4]
    refine Sim.quiet H (u := x.val) ?_ (h5 j _ x hp q2)
    simp [Instr.lookup, run_underlying' hu, hgo, c1, q5]
  ·cases hv
 ·cases hv
theorem HStep.mapk {id t : Nat} {ks ks' : List TV} {ps ps' : List PV} (hid : h id = .mpk t ks ps) : HStep φ φ h (upo h id (.mpk t ks' ps')) := by
 have := HStep.one (φ := φ) (h := h) (id := id) (o := .mpk t ks' ps') (φ id) (by rw [hid]; exact ⟨rfl, rfl⟩)
 rwa [upd_self] at this
theorem sim_updK (H : RH P C F φ h w) {t id : Nat} {k : TV} {x v : PV} {W : Wr} {um uk ux : Value} (hv : updK P t id k x (h id) = some (v, W)) (hm : RepP F φ h (.mapr id) um) (hk : RepT F k uk) (hx : RepP F φ h x ux) :
  Sim P C h (((do Instr.mapUpdate t um uk ux; pure .skip) : Sem Next).run P w) v W := by
 unfold updK at hv
 split at hv
 ·rename_i t' ks ps hid
  split at hv
  ·rename_i hc
   obtain ⟨rfl, hko⟩ := hc
   simp only [Option.some.injEq, Prod.mk.injEq] at hv
   obtain ⟨rfl, rfl⟩ := hv
   have hob := H.objs id
   rw [hid] at hob
   obtain ⟨es, clock, h1, h2, h3, h4, h5, h6⟩ := hob
   obtain ⟨_, _, rfl⟩ := hm
   obtain ⟨kt, et, hu, c1, c2⟩ := findKs (w := w) hko hk h2 h4
   have hgo := MapKept.run_getObj_map (P := P) h1
   have hlv : (h id).live = true := by rw [hid]; rfl
   have fin : ∀ (es' : Array MapEntry) (clock' : Nat) (ks' : List TV) (ps' : List PV), (Instr.mapUpdate t' (.map (some (φ id).1)) uk ux).run P w = .ok () (ChangeMaps.setBlock w (φ id).1 (.map es' clock')) →
     es'.size = ks'.length → ps'.length = ks'.length → (∀ (i : Nat) (q : TV) (y : MapEntry), ks'[i]? = some q → es'[i]? = some y → keyOk P t' q = true ∧ RepT F q y.key) →
     (∀ (i : Nat) (p : PV) (y : MapEntry), ps'[i]? = some p → es'[i]? = some y → RepP F φ h p y.val) →
     Sim P C h (((do Instr.mapUpdate t' (.map (some (φ id).1)) uk ux; pure .skip) : Sem Next).run P w) (.t (.tup [])) [(id, .mpk t' ks' ps')] := by
    intro es' clock' ks' ps' hrun e1 e2 e3 e4
    have hs := HStep.mapk (φ := φ) (ks' := ks') (ps' := ps') hid
    have hoth : ∀ b, b ≠ (φ id).1 → (ChangeMaps.setBlock w (φ id).1 (.map es' clock')).heap[b]? = w.heap[b]? := fun b hb => ChangeMaps.heap_setBlock_other h1 _ hb
    have := H.put (w' := ChangeMaps.setBlock w (φ id).1 (.map es' clock')) (F' := F) (rid := id) (.mpk t' ks' ps') (φ id) (by rw [upd_self]; exact hs) (Fz.le_refl _) (fun a u hu => ?_) (fun a u h5 h6 => by rw [h5] at h6; cases h6)
     ⟨rfl, rfl, rfl, by simp [ChangeMaps.setBlock], fun b _ hb => hoth b (fun e => hb ⟨e, hlv⟩)⟩ (.inr ⟨rfl, hlv⟩) ⟨es', clock', by rw [upd_self]; exact ChangeMaps.heap_setBlock_same h1 _, e1, e2, e3, fun j p y hp hy => ?_, by rw [upd_self]; exact h6⟩
    ·rw [upd_self] at this
     refine ⟨F, φ, undef, _, .inr ⟨?_, rfl⟩, this, .tup [] [] rfl (by simp)⟩
     simp only [Sem.run_bind, hrun, Result.andThen_ok, Sem.run_pure]
    ·have hne : a.block ≠ (φ id).1 := by
      intro e
      rw [h6 a e] at hu; cases hu
     rw [look_same (hoth _ hne)]; exact H.agree _ _ hu
    ·rw [upd_self]; exact (e4 j p y hp hy).step hs
   rcases c2 with ⟨q1, q2⟩ | ⟨j, x0, q1, q2, q4, q5, q6⟩
   ·rw [setK_none h3 q2]
    refine fin (es.push ⟨uk, ux, clock⟩) (clock + 1) (ks ++ [k]) (ps ++ [x]) ?_ (by simp [h2]) (by simp [h3]) (fun i q y hq hy => ?_) (fun i p y hp hy => ?_)
    ·simp [Instr.mapUpdate, run_underlying' hu, hgo, c1, q1, MapKept.run_setObj_map _ h1, ChangeMaps.setBlock]
    ·by_cases hi : i < ks.length
     ·rw [List.getElem?_append_left hi] at hq
      rw [Array.getElem?_push_lt (by omega)] at hy
      exact h4 i q y hq (by rw [Array.getElem?_eq_getElem (by omega)]; exact hy)
     ·have hi' : i = ks.length := by have := (List.getElem?_eq_some_iff.1 hq).1; simp at this; omega
      subst hi'
      rw [List.getElem?_append_right (Nat.le_refl _)] at hq
      simp at hq; subst hq
      rw [← h2] at hy
      simp at hy; subst hy
      exact ⟨hko, hk⟩
    ·by_cases hi : i < ps.length
     ·rw [List.getElem?_append_left hi] at hp
      rw [Array.getElem?_push_lt (by omega)] at hy
      exact h5 i p y hp (by rw [Array.getElem?_eq_getElem (by omega)]; exact hy)
     ·have hi' : i = ps.length := by have := (List.getElem?_eq_some_iff.1 hp).1; simp at this; omega
      subst hi'
      rw [List.getElem?_append_right (Nat.le_refl _)] at hp
      simp at hp; subst hp
      rw [h3, ← h2] at hy
      simp at hy; subst hy
      exact hx
   ·rw [setK_at h3 q1 q4]
    refine fin (es.modify j fun e => { e with key := uk, val := ux }) clock ks (ps.set j x) ?_ (by simp [h2]) (by simp [h3]) (fun i q y hq hy => ?_) (fun i p y hp hy => ?_)
    ·simp [Instr.mapUpdate, run_underlying' hu, hgo, c1, q5, q2, q6, MapKept.run_setObj_map _ h1, ChangeMaps.setBlock]
    ·rw [Array.getElem?_modify] at hy
     by_cases hi : i = j
     ·subst hi
      rw [if_pos rfl, q2] at hy
      simp at hy; subst hy
      rw [q1] at hq; cases hq
      exact ⟨hko, hk⟩
     ·rw [if_neg (Ne.symm hi)] at hy
      exact h4 i q y hq hy
    ·rw [Array.getElem?_modify] at hy
     by_cases hi : i = j
     ·subst hi
      have hlt : i < ps.length := by rw [h3]; exact (List.getElem?_eq_some_iff.1 q1).1
      rw [List.getElem?_set_self hlt] at hp; cases hp
      rw [if_pos rfl, q2] at hy
      simp at hy; subst hy
      exact hx
     ·rw [List.getElem?_set_ne (Ne.symm hi)] at hp
      rw [if_neg (Ne.symm hi)] at hy
      exact h5 i p y hp hy
  ·cases hv
 ·cases hv
theorem sim_ptrNil (H : RH P C F φ h w) {op : BinOp} {xt : TypeId} {x y : Operand} {b : Bool} {u : Value} {p : PV} {W : Wr} (hp : ptrNil P op xt b = some (p, W)) (hu : (b = true ∧ u = .pointer none) ∨ (b = false ∧ ∃ a, u = .pointer (some a))) :
  Sim P C h (((do pure (Next.value (← (do eqGuard op xt x y u (.pointer none); binOp op xt u (.pointer none))))) : Sem Next).run P w) p W := by
 unfold ptrNil at hp
 have e0 : ∀ e, P.underlying xt = some (.pointer e) → (Op.equal xt u (.pointer none)).run P w = .ok b w := by
  intro e he
  unfold Op.equal Op.maxDepth
  rw [show (10000 : Nat) = 9999 + 1 from rfl]
  unfold Op.equalIn
  rcases hu with ⟨rfl, rfl⟩ | ⟨rfl, a, rfl⟩
  ·simp [run_underlying' he]
  ·simp [run_underlying' he]
 split at hp
 ·rename_i e he
  simp at hp; obtain ⟨rfl, rfl⟩ := hp
  refine Sim.quiet H (u := .bool b) ?_ (RepT.bool _)
  rcases hu with ⟨rfl, rfl⟩ | ⟨rfl, a, rfl⟩ <;> simp [eqGuard, binOp, e0 e he]
 ·rename_i e he
  simp at hp; obtain ⟨rfl, rfl⟩ := hp
  refine Sim.quiet H (u := .bool (!b)) ?_ (RepT.bool _)
  rcases hu with ⟨rfl, rfl⟩ | ⟨rfl, a, rfl⟩ <;> simp [eqGuard, binOp, e0 e he]
 ·cases hp

theorem sim_isNil (H : RH P C F φ h w) {op : BinOp} {xt : TypeId} {x y : Operand} {a : TV} {u v : Value} {p : PV} {W : Wr} (hp : isNilO P op xt y a = some (p, W)) (hu : RepT F a u) (hv : RepT F .nilIf v) :
  Sim P C h (((do pure (Next.value (← (do eqGuard op xt x y u v; binOp op xt u v)))) : Sem Next).run P w) p W := by
 cases hv
 have eqs : ∀ {b : Bool}, (∀ d, (Op.equalIn (d + 1) xt u .nilIface).run P w = .ok b w) → (Op.equal xt u .nilIface).run P w = .ok b w := fun hd => hd 9999
 unfold isNilO at hp
 split at hp
 ·cases hu
  split at hp
  ·rename_i c ht
   obtain ⟨ms, ht⟩ := plainO_false ht
   simp at hp; obtain ⟨rfl, rfl⟩ := hp
   have e0 := eqs (b := true) (fun d => by simp [Op.equalIn, run_underlying' ht])
   exact Sim.quiet H (u := .bool true) (by simp [eqGuard, binOp, e0]) (RepT.bool _)
  ·rename_i c ht
   obtain ⟨ms, ht⟩ := plainO_false ht
   simp at hp; obtain ⟨rfl, rfl⟩ := hp
   have e0 := eqs (b := true) (fun d => by simp [Op.equalIn, run_underlying' ht])
   exact Sim.quiet H (u := .bool false) (by simp [eqGuard, binOp, e0]) (RepT.bool _)
  ·cases hp
 ·cases hu
  split at hp
  ·rename_i ht
   obtain ⟨ms, ht⟩ := plainO_false ht
   simp at hp; obtain ⟨rfl, rfl⟩ := hp
   have e0 := eqs (b := false) (fun d => by simp [Op.equalIn, run_underlying' ht])
   exact Sim.quiet H (u := .bool false) (by simp [eqGuard, binOp, e0]) (RepT.bool _)
  ·rename_i ht
   obtain ⟨ms, ht⟩ := plainO_false ht
   simp at hp; obtain ⟨rfl, rfl⟩ := hp
   have e0 := eqs (b := false) (fun d => by simp [Op.equalIn, run_underlying' ht])
   exact Sim.quiet H (u := .bool true) (by simp [eqGuard, binOp, e0]) (RepT.bool _)
  ·cases hp
 ·cases hp

theorem sim_assert (H : RH P C F φ h w) {a xt : TypeId} {x v : PV} {u : Value} {W : Wr} (ha : plainO P a = some true) (hp : assertO P a x = some (v, W)) (hr : RepP F φ h x u) :
  Sim P C h (((do pure (Next.value (← Instr.typeAssert u xt a true))) : Sem Next).run P w) v W := by
 obtain ⟨d, hd, hn⟩ := plainO_true ha
 have pair : ∀ (z : TV) (b : Bool) (q : Value), RepT F z q → RepT F (.tup [z, .bool b]) (.tuple #[q, .bool b]) := fun z b q hq =>
  .tup [z, .bool b] [q, .bool b] rfl fun i c u hc hu => by
   match i with
   | 0 => simp at hc hu; subst hc; subst hu; exact hq
   | 1 => simp at hc hu; subst hc; subst hu; exact .bool b
   | i + 2 => simp at hc
 unfold assertO at hp
 split at hp
 ·rename_i t z
  have hr' : RepT F (.ifc t z) u := hr
  cases hr' with
  | ifc _ _ q hq =>
   split at hp
   ·rename_i hta
    simp at hp; obtain ⟨rfl, rfl⟩ := hp
    refine Sim.quiet H (u := .tuple #[q, .bool true]) ?_ (pair z true q hq)
    cases d <;> first | exact absurd rfl (hn _) | simp [Instr.typeAssert, run_underlying' hd, hta]
   ·rename_i hta
    simp only [Option.map_eq_some_iff, Prod.mk.injEq] at hp
    obtain ⟨zz, hz, rfl, rfl⟩ := hp
    obtain ⟨zv, hzr, hzv⟩ := zeroT_rep (F := F) (w := w) hz
    refine Sim.quiet H (u := .tuple #[zv, .bool false]) ?_ (pair zz false zv hzv)
    cases d <;> first | exact absurd rfl (hn _) | simp [Instr.typeAssert, run_underlying' hd, hta, hzr]
 ·have hr' : RepT F .nilIf u := hr
  cases hr'
  simp only [Option.map_eq_some_iff, Prod.mk.injEq] at hp
  obtain ⟨zz, hz, rfl, rfl⟩ := hp
  obtain ⟨zv, hzr, hzv⟩ := zeroT_rep (F := F) (w := w) hz
  refine Sim.quiet H (u := .tuple #[zv, .bool false]) ?_ (pair zz false zv hzv)
  cases d <;> first | exact absurd rfl (hn _) | simp [Instr.typeAssert, run_underlying' hd, hzr]
 ·cases hp

end Go.Pm

/- Part QmI. -/
namespace Go.Pm
open Go Go.RowKit

variable {P : Program} {C : Cx} {F F' : Fz} {φ φ' φ'' : Nat → Nat × Nat} {h h' h'' : Hp} {w w' : World}

theorem wr_one (h : Hp) (x : Nat) (o : PO) : wr h [(x, o)] = upo h x o := rfl
theorem run_append_roomM (w : World) (t ty e : TypeId) (i : TypeInfo) (ht : P.underlying t = some (.slice e)) (hi : P.info? e = some i)
  (g sLen sCap : Nat) (cur : Array Value) (mk : Nat × Nat) (hg : w.heap[g]? = some (.cells cur e mk)) (hmk : okMk mk cur.size)
  (a : Addr) (m c : Nat) (news : List Value) (hl : news.length = m * i.size) (hnews : ∀ j u, news[j]? = some u → w.cell? (a.add j) = some u) (h1 : ∀ u ∈ news, u.oneCell' = true)
  (hroom : sLen + m ≤ sCap) (hfit : sLen * i.size + news.length ≤ cur.size) :
  (Builtin.append_ #[t, t] ty #[.slice (some ⟨g, 0, none⟩) sLen sCap, .slice (some a) m c]).run P w =
   .ok (.slice (some ⟨g, 0, none⟩) (sLen + m) sCap) (w.setRow g (cur.toList.take (sLen * i.size) ++ news ++ cur.toList.drop (sLen * i.size + news.length)).toArray) := by
 have hf := run_firstCells_some (P := P) w i.size m a m c news hl hnews
 have hst := run_storeCells_mk (P := P) g (sLen * i.size) e mk news 0 cur w hg hmk (by simpa using hfit) h1
 simp only [Nat.add_zero] at hst
 simp [Builtin.append_, run_underlying ht, sizeOf, typeInfo, hi, Builtin.lenOf, hroom, hf, Addr.add_lit, hst]
theorem sim_append_grow (H : RH P C F φ h w) {t ty e : TypeId} {i : TypeInfo} {z : Value} {sz by_ : Nat} (ht : P.underlying t = some (.slice e)) (hi : P.info? e = some i) (hz : i.zero = some z) (hsz : i.size = sz) (hzs : z.cells.size = sz) (hby : i.bytes = by_) (hb0 : 0 < by_)
  {id ver n m : Nat} {cells ds : List PV} {us : Value} (hid : h id = .grow ver cells e sz) (hs : RepP F φ h (.gsl id ver sz 0 n false) us) (hlen : cells.length = n * sz) {a : Addr} {c : Nat} {nu : List Value} (g1 : nu.length = m * sz) (g2 : RepG F φ h ds nu)
  (hcell : ∀ (i : Nat) (v : Value), nu[i]? = some v → w.cell? (a.add i) = some v) (hm : 0 < m) (hro : roomy (n + m) by_) :
  Sim P C h (((do pure (Next.value (← Builtin.append_ #[t, t] ty #[us, .slice (some a) m c]))) : Sem Next).run P w) (.gsl id (ver + 1) sz 0 (n + m) false) [(id, .grow (ver + 1) (cells ++ ds) e sz)] := by
 have hob := H.objs id
 rw [hid] at hob
 obtain ⟨cur, ⟨mk, k1, hmk⟩, k2, k3, k4, k5, k6⟩ := hob
 have hlv : (h id).live = true := by rw [hid]; rfl
 obtain ⟨v, e', cap, ad, q1, q2, rfl, q4, q5, q6, q7⟩ := hs
 rw [hid] at q1; cases q1
 obtain ⟨p1, p2, p3⟩ := q7 rfl
 have hcap : cap = (φ id).2 := by have := p3 rfl; omega
 have hmul : (n + m) * sz = n * sz + m * sz := Nat.add_mul _ _ _
 have hmax : n + m ≤ 140737488355328 := roomy_le hb0 hro
 have hst : ∀ x, HStep φ (upd φ id x) h (upo h id (.grow (ver + 1) (cells ++ ds) e sz)) := fun x => HStep.one x (by rw [hid]; exact ⟨ver + 1, rfl, by omega, fun e => by omega⟩)
 have hF : ∀ a u, F a = some u → a.block ≠ (φ id).1 := by
  intro a u hu e
  have hc := H.agree _ _ hu
  obtain ⟨b, o, s⟩ := a
  simp only at e; subst e
  cases s with
  | none => rw [k6] at hu; cases hu
  | some s => simp [look, k1] at hc
 by_cases hroom : n + m ≤ cap
 ·have ha : ad = ⟨(φ id).1, 0, none⟩ := by have := p2 (by omega); simpa using this
  subst ha
  have hle : (n + m) * sz ≤ (φ id).2 * sz := Nat.mul_le_mul_right _ (by omega)
  have hrun := run_append_roomM (P := P) w t ty e i ht hi (φ id).1 n cap cur.toArray mk k1 (by simpa using hmk) a m c nu (by rw [hsz]; exact g1) hcell (fun u hu => by
   obtain ⟨j, hj, rfl⟩ := List.getElem_of_mem hu
   have hj' : j < ds.length := by have := g2.1; omega
   exact (g2.2 j _ _ (List.getElem?_eq_getElem hj') (List.getElem?_eq_getElem hj)).2) hroom (by
    rw [hsz, g1]; simp only [List.size_toArray, k2]; omega)
  rw [hsz, g1] at hrun
  have hlc : (cur.take (n * sz)).length = n * sz := by rw [List.length_take]; omega
  have hll : (cur.take (n * sz) ++ nu ++ cur.drop (n * sz + m * sz)).length = (φ id).2 * sz := by
   simp only [List.length_append, List.length_take, List.length_drop, g1]; omega
  have hsame : (w.setRow (φ id).1 (cur.take (n * sz) ++ nu ++ cur.drop (n * sz + m * sz)).toArray).heap[(φ id).1]? = some (.cells (cur.take (n * sz) ++ nu ++ cur.drop (n * sz + m * sz)).toArray e mk) := setRow_heap w _ _ _ _ _ k1
  refine ⟨F, upd φ id (φ id), .slice (some ⟨(φ id).1, 0, none⟩) (n + m) cap, w.setRow (φ id).1 (cur.take (n * sz) ++ nu ++ cur.drop (n * sz + m * sz)).toArray, .inl ?_,
   H.put _ _ (hst _) (Fz.le_refl _) (fun a u hu => ?_) (fun a u e1 e2 => by rw [e1] at e2; cases e2) (bel_setRow w _ _ ⟨rfl, hlv⟩) (.inr ⟨rfl, hlv⟩) ?_, ?_⟩
  ·simp only [Sem.run_bind, hrun, Result.andThen_ok, Sem.run_pure]
  ·rw [look_same (setRow_other w _ _ _ (hF a u hu))]; exact H.agree _ _ hu
  ·rw [upd_self]
   refine ⟨_, ⟨mk, hsame, by rw [hll, ← k2]; exact hmk⟩, hll, by rw [hll, List.length_append, g2.1.symm, g1]; omega, k4, fun j p u hp hu => ?_, k6⟩
   by_cases hj : j < n * sz
   ·rw [List.getElem?_append_left (by omega)] at hp
    rw [List.append_assoc, List.getElem?_append_left (by omega), List.getElem?_take, if_pos hj] at hu
    exact ⟨(k5 j p u hp hu).1.step (by have := hst (φ id); rwa [upd_self] at this), (k5 j p u hp hu).2⟩
   ·rw [List.getElem?_append_right (by omega), hlen] at hp
    have hj2 : j - n * sz < nu.length := by have := (List.getElem?_eq_some_iff.1 hp).1; have := g2.1; omega
    rw [List.append_assoc, List.getElem?_append_right (by omega), hlc, List.getElem?_append_left hj2] at hu
    exact ⟨(g2.2 _ p u hp hu).1.step (by have := hst (φ id); rwa [upd_self] at this), (g2.2 _ p u hp hu).2⟩
  ·refine ⟨ver + 1, e, cap, _, by rw [wr_one, upo_same]; rfl, Nat.le_refl _, rfl, hroom, q5, fun e => (by cases e), fun _ => ?_⟩
   rw [upd_same]; exact ⟨by omega, fun _ => by simp, fun _ => by omega⟩
 ·have hg : cap < n + m := by omega
  have hod : RepG F φ h cells (cur.take (n * sz)) := ⟨by rw [List.length_take]; omega, fun j p u hp hu => by
   rw [List.getElem?_take] at hu
   split at hu
   ·exact k5 j p u hp hu
   ·cases hu⟩
  have hoc : ∀ (j : Nat) (v : Value), (cur.take (n * sz))[j]? = some v → w.cell? (ad.add j) = some v := by
   intro j v hv
   have hj : j < n * sz := by have := (List.getElem?_eq_some_iff.1 hv).1; rw [List.length_take] at this; omega
   have hn0 : 0 < n := by
    rcases Nat.eq_zero_or_pos n with h0 | h0
    ·subst h0; omega
    ·exact h0
   rw [addr_add_spot (p2 (by omega)), cell_at k1]
   rw [List.getElem?_take, if_pos hj] at hv
   simpa using hv
  have hrun := run_append_grow (P := P) w t ty e i z ht hi hz ad n cap (cur.take (n * sz)) (by rw [hsz, List.length_take]; omega) hoc a m c nu (by rw [hsz]; exact g1) hcell hg (by omega)
   (growslice_fits hg (by rw [hby]; exact hro))
  generalize hrest : (Builtin.zeroCells z.cells (grownCap w (n + m) cap e - (n + m))).toList = rest at *
  have hrl : (cur.take (n * sz) ++ nu).length + rest.length = grownCap w (n + m) cap e * sz := by
   rw [← hrest]
   exact rest_len hzs (by simp only [List.length_append, List.length_take, g1]; omega)
  have hnew := H.drew.allocGrow (rid := id) (v := ver + 1) (sz := sz) (cur.take (n * sz) ++ nu ++ rest) e (grownCap w (n + m) cap e) (cells ++ ds) (hst _) (by rw [List.length_append]; exact hrl) (by have := g2.1; simp only [List.length_append, List.length_take]; omega) k4 (fun j p u hp hu => by
   have hj : j < (cur.take (n * sz) ++ nu).length := by have := (List.getElem?_eq_some_iff.1 hp).1; have := g2.1; have := hod.1; simp only [List.length_append] at *; omega
   rw [List.getElem?_append_left hj] at hu
   exact (hod.append g2).2 j p u hp hu)
  refine ⟨F, _, .slice (some ⟨w.heap.size, 0, none⟩) (n + m) (grownCap w (n + m) cap e), _, .inl ?_, hnew, ver + 1, e, _, _, by rw [wr_one, upo_same]; rfl, Nat.le_refl _, rfl, grownCap_ge _ _ _ _, grownCap_le_maxLen _ _ _ _ (by unfold maxLen; omega), fun e => (by cases e), fun _ => ?_⟩
  ·simp only [Sem.run_bind, hrun, Result.andThen_ok, Sem.run_pure]
   congr 3
   apply Array.ext'; simp [← hrest]
  ·have e : (upd φ id (w.drew.heap.size, grownCap w (n + m) cap e)) id = (w.heap.size, grownCap w (n + m) cap e) := upd_same _ _
   rw [e]; exact ⟨by simp, fun _ => by simp, fun _ => by simp⟩

theorem sim_append_back (H : RH P C F φ h w) {t ty e : TypeId} {i : TypeInfo} {sz : Nat} (ht : P.underlying t = some (.slice e)) (hi : P.info? e = some i) (hsz : i.size = sz) (hpos : 0 < sz)
  {id ver n m : Nat} {cells ds : List PV} {us : Value} (hid : h id = .grow ver cells e sz) (hs : RepP F φ h (.gsl id ver sz 0 n false) us) (hlen : cells.length = (n + m) * sz) {a : Addr} {c : Nat} {nu : List Value} (g1 : nu.length = m * sz) (g2 : RepG F φ h ds nu)
  (hcell : ∀ (i : Nat) (v : Value), nu[i]? = some v → w.cell? (a.add i) = some v) (hm : 0 < m) :
  Sim P C h (((do pure (Next.value (← Builtin.append_ #[t, t] ty #[us, .slice (some a) m c]))) : Sem Next).run P w) (.gsl id (ver + 1) sz 0 (n + m) false) [(id, .grow (ver + 1) (cells.take (n * sz) ++ ds) e sz)] := by
 have hob := H.objs id
 rw [hid] at hob
 obtain ⟨cur, ⟨mk, k1, hmk⟩, k2, k3, k4, k5, k6⟩ := hob
 have hlv : (h id).live = true := by rw [hid]; rfl
 obtain ⟨v, e', cap, ad, q1, q2, rfl, q4, q5, q6, q7⟩ := hs
 rw [hid] at q1; cases q1
 obtain ⟨p1, p2, p3⟩ := q7 rfl
 have hcap : cap = (φ id).2 := by have := p3 rfl; omega
 have hmul : (n + m) * sz = n * sz + m * sz := Nat.add_mul _ _ _
 have hst : ∀ x, HStep φ (upd φ id x) h (upo h id (.grow (ver + 1) (cells.take (n * sz) ++ ds) e sz)) := fun x => HStep.one x (by rw [hid]; exact ⟨ver + 1, rfl, by omega, fun e => by omega⟩)
 have hF : ∀ a u, F a = some u → a.block ≠ (φ id).1 := by
  intro a u hu e
  have hc := H.agree _ _ hu
  obtain ⟨b, o, s⟩ := a
  simp only at e; subst e
  cases s with
  | none => rw [k6] at hu; cases hu
  | some s => simp [look, k1] at hc
 have hroom : n + m ≤ cap := by
  refine Nat.le_of_mul_le_mul_right (c := sz) ?_ hpos
  rw [hcap]; omega
 have ha : ad = ⟨(φ id).1, 0, none⟩ := by have := p2 (by omega); simpa using this
 subst ha
 have hle : (n + m) * sz ≤ (φ id).2 * sz := Nat.mul_le_mul_right _ (by omega)
 have hrun := run_append_roomM (P := P) w t ty e i ht hi (φ id).1 n cap cur.toArray mk k1 (by simpa using hmk) a m c nu (by rw [hsz]; exact g1) hcell (fun u hu => by
  obtain ⟨j, hj, rfl⟩ := List.getElem_of_mem hu
  have hj' : j < ds.length := by have := g2.1; omega
  exact (g2.2 j _ _ (List.getElem?_eq_getElem hj') (List.getElem?_eq_getElem hj)).2) hroom (by
   rw [hsz, g1]; simp only [List.size_toArray, k2]; omega)
 rw [hsz, g1] at hrun
 have hlc : (cur.take (n * sz)).length = n * sz := by rw [List.length_take]; omega
 have hld : (cells.take (n * sz)).length = n * sz := by rw [List.length_take]; omega
 have hll : (cur.take (n * sz) ++ nu ++ cur.drop (n * sz + m * sz)).length = (φ id).2 * sz := by
  simp only [List.length_append, List.length_take, List.length_drop, g1]; omega
 have hsame : (w.setRow (φ id).1 (cur.take (n * sz) ++ nu ++ cur.drop (n * sz + m * sz)).toArray).heap[(φ id).1]? = some (.cells (cur.take (n * sz) ++ nu ++ cur.drop (n * sz + m * sz)).toArray e mk) := setRow_heap w _ _ _ _ _ k1
 refine ⟨F, upd φ id (φ id), .slice (some ⟨(φ id).1, 0, none⟩) (n + m) cap, w.setRow (φ id).1 (cur.take (n * sz) ++ nu ++ cur.drop (n * sz + m * sz)).toArray, .inl ?_,
  H.put _ _ (hst _) (Fz.le_refl _) (fun a u hu => ?_) (fun a u e1 e2 => by rw [e1] at e2; cases e2) (bel_setRow w _ _ ⟨rfl, hlv⟩) (.inr ⟨rfl, hlv⟩) ?_, ?_⟩
 ·simp only [Sem.run_bind, hrun, Result.andThen_ok, Sem.run_pure]
 ·rw [look_same (setRow_other w _ _ _ (hF a u hu))]; exact H.agree _ _ hu
 ·rw [upd_self]
  refine ⟨_, ⟨mk, hsame, by rw [hll, ← k2]; exact hmk⟩, hll, by rw [hll, List.length_append, hld, g2.1.symm, g1]; omega, k4, fun j p u hp hu => ?_, k6⟩
  by_cases hj : j < n * sz
  ·rw [List.getElem?_append_left (by omega), List.getElem?_take, if_pos hj] at hp
   rw [List.append_assoc, List.getElem?_append_left (by omega), List.getElem?_take, if_pos hj] at hu
   exact ⟨(k5 j p u hp hu).1.step (by have := hst (φ id); rwa [upd_self] at this), (k5 j p u hp hu).2⟩
  ·rw [List.getElem?_append_right (by omega), hld] at hp
   have hj2 : j - n * sz < nu.length := by have := (List.getElem?_eq_some_iff.1 hp).1; have := g2.1; omega
   rw [List.append_assoc, List.getElem?_append_right (by omega), hlc, List.getElem?_append_left hj2] at hu
   exact ⟨(g2.2 _ p u hp hu).1.step (by have := hst (φ id); rwa [upd_self] at this), (g2.2 _ p u hp hu).2⟩
 ·refine ⟨ver + 1, e, cap, _, by rw [wr_one, upo_same]; rfl, Nat.le_refl _, rfl, hroom, q5, fun e => (by cases e), fun _ => ?_⟩
  rw [upd_same]; exact ⟨by omega, fun _ => by simp, fun _ => by omega⟩
theorem bytesT_rep (b : ByteArray) : RepL F (bytesT b) (Lib.strCells b) ∧ Ones (Lib.strCells b) ∧ (Lib.strCells b).length = b.size := by
 have hl : (Lib.strCells b).length = b.size := Lib.strCells_length b
 have he : Lib.strCells b = b.data.toList.map (fun c : UInt8 => Value.int .u8 (c.toNat : Int)) := by simp [Lib.strCells]
 refine ⟨⟨by rw [he]; simp [bytesT], fun i c u hc hu => ?_⟩, fun i u hu => ?_, hl⟩
 ·rw [he] at hu
  simp only [bytesT, List.getElem?_map, Option.map_eq_some_iff] at hc hu
  obtain ⟨x, hx, rfl⟩ := hc
  obtain ⟨y, hy, rfl⟩ := hu
  rw [hx] at hy; cases hy
  exact .int _ _
 ·rw [he] at hu
  simp only [List.getElem?_map, Option.map_eq_some_iff] at hu
  obtain ⟨y, hy, rfl⟩ := hu
  rfl
theorem sim_appendS (H : RH P C F φ h w) {t t' ty : TypeId} {s x v : PV} {us ux : Value} {rid : Nat} {W : Wr} (hv : appendS P t t' s x h rid = some (v, W)) (hs : RepP F φ h s us) (hx : RepP F φ h x ux) :
  Sim P C h (((do pure (Next.value (← Builtin.append_ #[t, t'] ty #[us, ux]))) : Sem Next).run P w) v W := by
 unfold appendS at hv
 split at hv
 ·rename_i e b ht' he
  cases hx
  split at hv
  ·rename_i by_ hsm
   obtain ⟨i, z, hi, hz, hsz, hzs, hpos, hby, hb0, hco⟩ := smallO_some hsm
   have ht := sliceO_some he
   obtain ⟨r1, r2, r3⟩ := bytesT_rep (F := F) b
   split at hv
   ·cases hv
   ·rename_i hb
    split at hv
    ·cases hs
     split at hv
     ·rename_i hc
      cases hv
      have hmax := roomy_le hb0 hc.1
      have hrun := run_append_nil_string (P := P) (w := w) t t' ty e i z ht ht' hi hz b (by omega) (by omega) (Nat.le_trans (by rw [hby]; exact hc.1) (by decide))
      refine sim_newTok H (cap := grownCap w b.size 0 e) (us := Lib.strCells b) (rest := (Builtin.zeroCells z.cells (grownCap w b.size 0 e - b.size)).toList) (HStep.put (isRes_iff.1 hc.2) _ _) r1 r2 (by rw [hco, Nat.mul_one]; exact r3) ?_ (by omega) (grownCap_ge _ _ _ _) (grownCap_le_maxLen _ _ _ _ (by unfold maxLen; omega)) ?_
      ·rw [hco]; exact rest_len hzs (by rw [r3, Nat.mul_one])
      ·simp only [Sem.run_bind, hrun, Result.andThen_ok, Sem.run_pure]
       congr 3
       apply Array.ext'; simp [Lib.strCells]
     ·cases hv
    ·rename_i cs n id
     split at hv
     ·rename_i hc
      obtain ⟨hlen, hn0', htk, hro⟩ := hc
      have hn0 : 0 < n := by omega
      have hid := tokIs_eq htk
      cases hv
      have hmax := roomy_le hb0 hro
      obtain ⟨_, hsl, m, e', hid', hnm, hus⟩ := hs
      rw [hid] at hid'
      simp only [PO.tok.injEq] at hid'
      obtain ⟨rfl, rfl⟩ := hid'
      have hu := hus rfl hn0
      have hsl2 := hsl hn0
      clear hsl
      rw [hu] at hsl2
      subst hu
      cases hsl2 with
      | sl _ _ _ _ _ uu hul hF hrr h1 h2 h3 =>
       have ho1 : Ones uu := fun i u hu => (hF i u hu).2
       by_cases hroom : n + b.size ≤ (φ id).2
       ·refine sim_append_room H hid ⟨hul, hrr⟩ ho1 (by rw [hco]; omega) (fun i v hv => by have := (hF i v hv).1; rwa [add_plain, Nat.zero_add] at this) r1 r2 (by rw [hco, Nat.mul_one]; exact r3) hn0 (by omega) hroom h3 ?_
        intro cur hcur
        have hob := H.objs id
        rw [hid] at hob
        obtain ⟨cur', mk, k1, hmk⟩ := hob hn0
        obtain ⟨rfl, k2, _, _⟩ := hmk (by omega)
        have hcc : cur = cur' := by rw [hcur] at k1; simpa using k1
        subst hcc
        rw [hco, Nat.mul_one] at k2
        have hrun := Lib.run_append_room_string (P := P) w t t' ty e i ht ht' hi hsz (φ id).1 n (φ id).2 cur.toArray hcur b hroom (by simp only [List.size_toArray]; omega)
        simp only [Sem.run_bind, hrun, Result.andThen_ok, Sem.run_pure, hco, Nat.mul_one, r3]
       ·have hg : (φ id).2 < n + b.size := by omega
        have hrun := Lib.run_append_grow_string (P := P) w t t' ty e i z ht ht' hi hz ⟨(φ id).1, 0, none⟩ n (φ id).2 uu (by rw [hsz]; omega) (fun j u hu => look_cell (H.agree _ _ (hF j u hu).1) (hF j u hu).2) b hg (by omega)
         (growslice_fits hg (by rw [hby]; exact hro))
        have hlu : uu.length + (Lib.strCells b).length = (n + b.size) * 1 := by omega
        refine sim_newTok H (cap := grownCap w (n + b.size) (φ id).2 e) (rest := (Builtin.zeroCells z.cells (grownCap w (n + b.size) (φ id).2 e - (n + b.size))).toList) (HStep.one _ (by rw [hid]; exact ⟨n + b.size, rfl, by omega, fun e => by omega⟩)) (RepL.append ⟨hul, hrr⟩ r1) (Ones.append ho1 r2)
         (by rw [hco, List.length_append]; exact hlu) ?_ (by omega) (grownCap_ge _ _ _ _) (grownCap_le_maxLen _ _ _ _ (by unfold maxLen; omega)) ?_
        ·rw [hco]; exact rest_len hzs (by rw [List.length_append]; exact hlu)
        ·simp only [Sem.run_bind, hrun, Result.andThen_ok, Sem.run_pure]
         congr 3
         apply Array.ext'; simp
     ·cases hv
    ·cases hv
  ·cases hv
 ·cases hv
theorem sim_appendG (H : RH P C F φ h w) {mu : Bool} {t t' ty : TypeId} {s x v : PV} {us ux : Value} {rid : Nat} {W : Wr} (hv : appendG P mu t t' s x h rid = some (v, W)) (hs : RepP F φ h s us) (hx : RepP F φ h x ux) :
  Sim P C h (((do pure (Next.value (← Builtin.append_ #[t, t'] ty #[us, ux]))) : Sem Next).run P w) v W := by
 unfold appendG at hv
 split at hv
 ·rename_i htt; subst htt
  split at hv
  ·cases hv
  ·rename_i e he
   split at hv
   ·cases hv
   ·rename_i sz by_ hsm
    obtain ⟨i, z, hi, hz, hsz, hzs, hpos, hby, hb0, hco⟩ := smallO_some hsm
    have ht := sliceO_some he
    split at hv
    ·cases hv
    ·rename_i ds m hsrc
     have hsrc' := srcG_some H hsrc hx
     have hzero : m = 0 → (ux = .slice none 0 0 ∨ ∃ a k, ux = .slice (some a) 0 k) := by
      intro hm
      rcases hsrc' with ⟨rfl, _, _⟩ | ⟨a, c, nu, rfl, _⟩
      ·exact .inl rfl
      ·subst hm; exact .inr ⟨a, c, rfl⟩
     split at hv
     ·-- nil
      cases hs
      split at hv
      ·rename_i hm
       cases hv
       have := append_none_run (P := P) (w := w) (ty := ty) ht hi none 0 0 (Nat.le_refl _) ux (hzero hm)
       exact Sim.quiet H (u := .slice none 0 0) (by simp [this]) .nilSl
      ·rename_i hm
       split at hv
       ·rename_i hc
        rcases hsrc' with ⟨_, _, h0⟩ | ⟨a, c, nu, rfl, g1, g2, g4⟩
        ·exact absurd h0 hm
        ·have hmax : m ≤ 140737488355328 := roomy_le hb0 hc.1
         have hrun := run_append_nil (P := P) w t ty e i z ht hi hz a m c nu (by rw [hsz]; exact g1) g4 (Nat.pos_of_ne_zero hm) (by omega)
          (Nat.le_trans (by rw [hby]; exact hc.1) (by decide))
         refine sim_fresh H (cap := grownCap w m 0 e) (rest := (Builtin.zeroCells z.cells (grownCap w m 0 e - m)).toList) hv (isRes_iff.1 hc.2) g2 g1 (rest_len hzs g1) (Nat.pos_of_ne_zero hm) (grownCap_ge _ _ _ _) (grownCap_le_maxLen _ _ _ _ (by unfold maxLen; omega)) hco ?_
         simp only [Sem.run_bind, hrun, Result.andThen_ok, Sem.run_pure]
         congr 3
         apply Array.ext'; simp
       ·cases hv
     ·-- a row whose capacity is its length
      rename_i cs n
      split at hv
      ·rename_i hlen
       split at hv
       ·rename_i hm
        cases hv
        have hs' := hs
        cases hs with
        | sl _ _ _ ad cap uu hul hF hrr h1 h2 h3 =>
         have := append_none_run (P := P) (w := w) (ty := ty) ht hi (some ad) n cap h1 ux (hzero hm)
         exact Sim.quiet H (u := .slice (some ad) n cap) (by simp [this]) hs'
       ·rename_i hm
        split at hv
        ·rename_i hc
         cases hs with
         | sl _ _ _ ad cap uu hul hF hrr h1 h2 h3 =>
          have hcap : cap = n := h2 rfl
          subst hcap
          rcases hsrc' with ⟨_, _, h0⟩ | ⟨a, c, nu, rfl, g1, g2, g4⟩
          ·exact absurd h0 hm
          ·have hmax := roomy_le hb0 hc.1
           have hg : cap < cap + m := by omega
           have hrun := run_append_grow (P := P) w t ty e i z ht hi hz ad cap cap uu (by rw [hsz]; omega) (fun j u hu => look_cell (H.agree _ _ (hF j u hu).1) (hF j u hu).2) a m c nu (by rw [hsz]; exact g1) g4 hg (by omega)
            (growslice_fits hg (by rw [hby]; exact hc.1))
           have hlu : uu.length + nu.length = (cap + m) * sz := by rw [Nat.add_mul, hul, hlen, g1]
           refine sim_fresh H (cap := grownCap w (cap + m) cap e) (us := uu ++ nu) (rest := (Builtin.zeroCells z.cells (grownCap w (cap + m) cap e - (cap + m))).toList) hv (isRes_iff.1 hc.2) ((RepG.of_t ⟨hul, hrr⟩ (fun i u hu => (hF i u hu).2)).append g2)
            (by rw [List.length_append]; exact hlu) (rest_len hzs (by rw [List.length_append]; exact hlu)) (by omega) (grownCap_ge _ _ _ _) (grownCap_le_maxLen _ _ _ _ (by unfold maxLen; omega)) hco ?_
           simp only [Sem.run_bind, hrun, Result.andThen_ok, Sem.run_pure]
           congr 3
           apply Array.ext'; simp
        ·cases hv
      ·cases hv
     ·-- a written row whose capacity is its length
      rename_i id ver sz' o n
      split at hv
      ·rename_i cells hg
       split at hv
       ·rename_i hlen
        obtain ⟨rfl, hle⟩ := hlen
        split at hv
        ·rename_i hm
         cases hv
         have hs' := hs
         obtain ⟨v, e', cap, ad, q1, q2, rfl, q4, q5, q6, q7⟩ := hs
         have := append_none_run (P := P) (w := w) (ty := ty) ht hi (some ad) n cap q4 ux (hzero hm)
         exact Sim.quiet H (u := .slice (some ad) n cap) (by simp [this]) hs'
        ·rename_i hm
         split at hv
         ·rename_i hc
          obtain ⟨cur, e2, sz2, g0, ⟨_, k1⟩, k2, k3, k4, k5⟩ := row_at H hg
          obtain ⟨v', e', cap, ad, q1, q2, rfl, q4, q5, q6, q7⟩ := hs
          rw [g0] at q1; cases q1
          obtain ⟨p1, p2, p3⟩ := q7 rfl
          have hcap : cap = n := q6 rfl
          subst hcap
          rcases hsrc' with ⟨_, _, h0⟩ | ⟨a, c, nu, rfl, g1, g2, g4⟩
          ·exact absurd h0 hm
          ·have hmax := roomy_le hb0 hc.1
           have hg' : cap < cap + m := by omega
           have hmul : (o + cap) * sz' = o * sz' + cap * sz' := Nat.add_mul _ _ _
           have hod : RepG F φ h ((cells.drop (o * sz')).take (cap * sz')) ((cur.drop (o * sz')).take (cap * sz')) := RepG.drop_take k5 k3 (by omega)
           have hol : ((cur.drop (o * sz')).take (cap * sz')).length = cap * sz' := by simp only [List.length_take, List.length_drop]; omega
           have hrun := run_append_grow (P := P) w t ty e i z ht hi hz ad cap cap ((cur.drop (o * sz')).take (cap * sz')) (by rw [hsz]; exact hol) (fun j u hu => by
            rw [List.getElem?_take] at hu
            split at hu
            ·rw [List.getElem?_drop] at hu
             have h0 : 0 < cap := by
              rcases Nat.eq_zero_or_pos cap with h0 | h0
              ·subst h0; omega
              ·exact h0
             rw [addr_add_spot (p2 h0), cell_at k1]; exact hu
            ·cases hu) a m c nu (by rw [hsz]; exact g1) g4 hg' (by omega)
            (growslice_fits hg' (by rw [hby]; exact hc.1))
           have hlu : ((cur.drop (o * sz')).take (cap * sz')).length + nu.length = (cap + m) * sz' := by rw [Nat.add_mul, hol, g1]
           refine sim_fresh H (cap := grownCap w (cap + m) cap e) (us := (cur.drop (o * sz')).take (cap * sz') ++ nu) (rest := (Builtin.zeroCells z.cells (grownCap w (cap + m) cap e - (cap + m))).toList) hv (isRes_iff.1 hc.2) (hod.append g2)
            (by rw [List.length_append]; exact hlu) (rest_len hzs (by rw [List.length_append]; exact hlu)) (by omega) (grownCap_ge _ _ _ _) (grownCap_le_maxLen _ _ _ _ (by unfold maxLen; omega)) hco ?_
           simp only [Sem.run_bind, hrun, Result.andThen_ok, Sem.run_pure]
           congr 3
           apply Array.ext'; simp
         ·cases hv
       ·cases hv
      ·cases hv
     ·-- a written row
      rename_i id ver sz' n
      split at hv
      ·rename_i cells hg
       have hid := growIs_eq hg
       split at hv
       ·rename_i hlen
        obtain ⟨rfl, hle⟩ := hlen
        split at hv
        ·rename_i hm
         cases hv
         have hs' := hs
         obtain ⟨v, e', cap, ad, q1, q2, rfl, q4, q5, q6, q7⟩ := hs
         have := append_none_run (P := P) (w := w) (ty := ty) ht hi (some ad) n cap q4 ux (hzero hm)
         exact Sim.quiet H (u := .slice (some ad) n cap) (by simp [this]) hs'
        ·rename_i hm
         split at hv
         ·rename_i hc
          cases hv
          rcases hsrc' with ⟨_, _, h0⟩ | ⟨a, c, nu, rfl, g1, g2, g4⟩
          ·exact absurd h0 hm
          ·exact sim_append_grow H ht hi hz hsz hzs hby hb0 hid hs hle g1 g2 g4 (Nat.pos_of_ne_zero hm) hc
         ·cases hv
       ·split at hv
        ·rename_i hlen
         obtain ⟨rfl, hm, hle⟩ := hlen
         cases hv
         rcases hsrc' with ⟨_, _, h0⟩ | ⟨a, c, nu, rfl, g1, g2, g4⟩
         ·exact absurd h0 hm
         ·exact sim_append_back H ht hi hsz hpos hid hs hle g1 g2 g4 (Nat.pos_of_ne_zero hm)
        ·cases hv
      ·cases hv
     ·-- a row of our own
      rename_i cs n id
      split at hv
      ·rename_i ds' hds
       split at hv
       ·rename_i hlt
        obtain ⟨hlen, htok⟩ := hlt
        have hid := tokIs_eq htok
        rcases Nat.eq_zero_or_pos n with hn0 | hn0
        ·subst hn0
         obtain ⟨hcs, hus⟩ := hs.1 rfl
         subst hcs; subst hus
         split at hv
         ·rename_i hm
          cases hv
          have := append_none_run (P := P) (w := w) (ty := ty) ht hi none 0 0 (Nat.le_refl _) ux (hzero hm)
          exact Sim.quiet H (u := .slice none 0 0) (by simp [this]) hs
         ·rename_i hm
          split at hv
          ·rename_i hc
           simp only [Nat.zero_add, List.nil_append, Option.some.injEq, Prod.mk.injEq] at hv hc
           obtain ⟨rfl, rfl⟩ := hv
           rcases hsrc' with ⟨_, _, h0⟩ | ⟨a, c, nu, rfl, g1, g2', g4⟩
           ·exact absurd h0 hm
           ·have hmax : m ≤ 140737488355328 := roomy_le hb0 hc
            obtain ⟨g2, g3⟩ := g2'.toL hds
            have hrun := run_append_nil (P := P) w t ty e i z ht hi hz a m c nu (by rw [hsz]; exact g1) g4 (Nat.pos_of_ne_zero hm) (by omega)
             (Nat.le_trans (by rw [hby]; exact hc) (by decide))
            refine sim_newTok H (cap := grownCap w m 0 e) (rest := (Builtin.zeroCells z.cells (grownCap w m 0 e - m)).toList) (HStep.one _ (by rw [hid]; exact ⟨m, rfl, by omega, fun e => by omega⟩)) g2 g3 (by rw [hco]; exact g1) (by rw [hco]; exact rest_len hzs g1) (Nat.pos_of_ne_zero hm) (grownCap_ge _ _ _ _) (grownCap_le_maxLen _ _ _ _ (by unfold maxLen; omega)) ?_
            simp only [Sem.run_bind, hrun, Result.andThen_ok, Sem.run_pure]
            congr 3
            apply Array.ext'; simp
          ·cases hv
        have hs0 := hs
        obtain ⟨_, hsl, m0, e0, h01, h02, hval⟩ := hs
        have hsl := hsl hn0
        rw [hid] at h01; cases h01
        have hu := hval rfl hn0
        subst hu
        split at hv
        ·rename_i hm
         cases hv
         cases hsl with
         | sl _ _ _ _ _ uu hul hF hrr h1 h2 h3 =>
          have := append_none_run (P := P) (w := w) (ty := ty) ht hi (some ⟨(φ id).1, 0, none⟩) n (φ id).2 h1 ux (hzero hm)
          exact Sim.quiet H (u := .slice (some ⟨(φ id).1, 0, none⟩) n (φ id).2) (by simp [this]) hs0
        ·rename_i hm
         split at hv
         ·rename_i hc
          cases hv
          cases hsl with
          | sl _ _ _ _ _ uu hul hF hrr h1 h2 h3 =>
           rcases hsrc' with ⟨_, _, h0⟩ | ⟨a, c, nu, rfl, g1, g2', g4⟩
           ·exact absurd h0 hm
           ·have hmax := roomy_le hb0 hc
            obtain ⟨g2, g3⟩ := g2'.toL hds
            have ho1 : Ones uu := fun i u hu => (hF i u hu).2
            by_cases hroom : n + m ≤ (φ id).2
            ·refine sim_append_room H hid ⟨hul, hrr⟩ ho1 (by rw [hco]; omega) (fun i v hv => by have := (hF i v hv).1; rwa [add_plain, Nat.zero_add] at this) g2 g3 (by rw [hco]; exact g1) hn0 (Nat.pos_of_ne_zero hm) hroom h3 ?_
             intro cur hcur
             have hle : (n + m) * sz ≤ (φ id).2 * sz := Nat.mul_le_mul_right _ hroom
             have hob := H.objs id
             rw [hid] at hob
             obtain ⟨cur', mk, k1, hmk⟩ := hob hn0
             obtain ⟨rfl, k2, _, _⟩ := hmk (by omega)
             have hcc : cur = cur' := by rw [hcur] at k1; simpa using k1
             subst hcc
             have hrun := run_append_room (P := P) w t ty e i ht hi (φ id).1 n (φ id).2 cur.toArray hcur a m c nu (by rw [hsz]; exact g1) g4 (fun u hu => by
              obtain ⟨j, hj, rfl⟩ := List.getElem_of_mem hu
              exact g3 j _ (List.getElem?_eq_getElem hj)) hroom (by
               rw [hsz, g1, ← Nat.add_mul]; simp only [List.size_toArray, k2, hco]; exact hle)
             simp only [Sem.run_bind, hrun, Result.andThen_ok, Sem.run_pure, hsz, hco]
            ·have hg : (φ id).2 < n + m := by omega
             have hrun := run_append_grow (P := P) w t ty e i z ht hi hz ⟨(φ id).1, 0, none⟩ n (φ id).2 uu (by rw [hsz]; omega) (fun j u hu => look_cell (H.agree _ _ (hF j u hu).1) (hF j u hu).2) a m c nu (by rw [hsz]; exact g1) g4 hg (by omega)
              (growslice_fits hg (by rw [hby]; exact hc))
             have hlu : uu.length + nu.length = (n + m) * sz := by rw [Nat.add_mul, hul, hlen, g1]
             refine sim_newTok H (cap := grownCap w (n + m) (φ id).2 e) (rest := (Builtin.zeroCells z.cells (grownCap w (n + m) (φ id).2 e - (n + m))).toList) (HStep.one _ (by rw [hid]; exact ⟨n + m, rfl, by omega, fun e => by omega⟩)) (RepL.append ⟨hul, hrr⟩ g2) (Ones.append ho1 g3)
              (by rw [hco, List.length_append]; exact hlu) ?_ (by omega) (grownCap_ge _ _ _ _) (grownCap_le_maxLen _ _ _ _ (by unfold maxLen; omega)) ?_
             ·rw [hco]; exact rest_len hzs (by rw [List.length_append]; exact hlu)
             ·simp only [Sem.run_bind, hrun, Result.andThen_ok, Sem.run_pure]
              congr 3
              apply Array.ext'; simp
         ·cases hv
       ·cases hv
      ·cases hv
     ·cases hv
 ·exact sim_appendS H hv hs hx

theorem RepT.int_inv {k : IntKind} {n : Int} {u : Value} (hr : RepT F (.int k n) u) : u = .int k n := by cases hr; rfl
theorem RepT.bool_inv {b : Bool} {u : Value} (hr : RepT F (.bool b) u) : u = .bool b := by cases hr; rfl

theorem strip_rep {b : Bool} {p : PV} {u : Value} (hb : b = true) (hr : RepP F φ h p u) : RepP F φ h (strip b p) u := by
 unfold strip
 split
 ·rename_i b' q
  cases e : b' == b with
  | false => exact hr
  | true =>
   have : b' = b := by simpa using e
   exact hr.1 (by rw [this]; exact hb)
 ·exact hr
theorem pickP_rep {c : Bool} {p q : PV} {u v : Value} (hp : RepP F φ h p u) (hq : RepP F φ h q v) : RepP F φ h (pickP c p q) (if c then u else v) := by
 cases c with
 | true =>
  have h1 := strip_rep (b := true) rfl hp
  unfold pickP
  split
  ·rename_i x y hx hy
   rw [hx] at h1
   simpa using h1
  ·simpa using h1
 | false =>
  have h1 := strip_rep (b := true) rfl hq
  unfold pickP
  split
  ·rename_i x y hx hy
   simp only [Bool.not_false] at hy
   rw [hy] at h1
   simpa using h1
  ·simpa using h1

theorem sim_gnil {xt e : TypeId} {x y : Operand} {ux uy : Value} {a : Addr} {n cap : Nat} (he : P.underlying xt = some (.slice e)) (hx : ux = .slice (some a) n cap) (hy : uy = .slice none 0 0) :
  (((do eqGuard .eql xt x y ux uy; pure (Next.value (← binOp .eql xt ux uy))) : Sem Next).run P w = .ok (.value (.bool false)) w) ∧ (((do eqGuard .neq xt x y ux uy; pure (Next.value (← binOp .neq xt ux uy))) : Sem Next).run P w = .ok (.value (.bool true)) w) := by
 subst hx; subst hy
 have h1 : ∀ op, (eqGuard op xt x y (.slice (some a) n cap) (.slice none 0 0)).run P w = .ok () w := fun op => run_eqGuard (by simp) (.inl (by simp))
 have h2 : (Op.equal xt (.slice (some a) n cap) (.slice none 0 0)).run P w = .ok false w := by
  unfold Op.equal Op.maxDepth
  rw [show (10000 : Nat) = 9999 + 1 from rfl]
  unfold Op.equalIn
  simp only [Sem.run_bind, run_underlying' he, Result.andThen_ok, Sem.run_pure]
 constructor
 ·simp [h1, binOp, h2]
 ·simp [h1, binOp, h2]
theorem sim_nilnil {xt e : TypeId} {x y : Operand} {ux uy : Value} (he : P.underlying xt = some (.slice e)) (hx : ux = .slice none 0 0) (hy : uy = .slice none 0 0) :
  (((do eqGuard .eql xt x y ux uy; pure (Next.value (← binOp .eql xt ux uy))) : Sem Next).run P w = .ok (.value (.bool true)) w) ∧ (((do eqGuard .neq xt x y ux uy; pure (Next.value (← binOp .neq xt ux uy))) : Sem Next).run P w = .ok (.value (.bool false)) w) := by
 subst hx; subst hy
 have h1 : ∀ op, (eqGuard op xt x y (.slice none 0 0) (.slice none 0 0)).run P w = .ok () w := fun op => run_eqGuard (by simp) (.inl (by simp))
 have h2 : (Op.equal xt (.slice none 0 0) (.slice none 0 0)).run P w = .ok true w := by
  unfold Op.equal Op.maxDepth
  rw [show (10000 : Nat) = 9999 + 1 from rfl]
  unfold Op.equalIn
  simp only [Sem.run_bind, run_underlying' he, Result.andThen_ok, Sem.run_pure]
  rfl
 constructor
 ·simp [h1, binOp, h2]
 ·simp [h1, binOp, h2]
theorem mkV_inj {b b' : Bool} {us us' : List Value} (h : mkV b us = mkV b' us') : us = us' := by
 cases b <;> cases b' <;> simp [mkV] at h <;> exact h
theorem nthP_rep : ∀ {p : PV} {i : Nat} {x : PV} {u : Value}, nthP p i = some x → RepP F φ h p u → ∀ {b : Bool} {us : List Value}, u = mkV b us → ∃ z, us[i]? = some z ∧ RepP F φ h x z
 | .cons b p q, 0, x, u, hn, hr, b', us', hu' => by
  simp [nthP] at hn; subst hn
  obtain ⟨v, us, hu, r1, _⟩ := hr
  rw [hu'] at hu
  rw [mkV_inj hu]
  exact ⟨v, rfl, r1⟩
 | .cons b p q, i + 1, x, u, hn, hr, b', us', hu' => by
  obtain ⟨v, us, hu, r1, r2, _⟩ := hr
  rw [hu'] at hu
  rw [mkV_inj hu]
  obtain ⟨z, hz, rz⟩ := nthP_rep (p := q) (by simpa [nthP] using hn) r2 rfl
  exact ⟨z, by simpa using hz, rz⟩
 | .t _, _, _, _, hn, _, _, _, _ => by simp [nthP] at hn
 | .ptr _ _, _, _, _, hn, _, _, _, _ => by simp [nthP] at hn
 | .own _ _ _, _, _, _, hn, _, _, _, _ => by simp [nthP] at hn
 | .fnc _ _, _, _, _, hn, _, _, _, _ => by simp [nthP] at hn
 | .yld _, _, _, _, hn, _, _, _, _ => by simp [nthP] at hn
 | .mth _ _, _, _, _, hn, _, _, _, _ => by simp [nthP] at hn
 | .cond _ _, _, _, _, hn, _, _, _, _ => by simp [nthP] at hn
 | .gsl _ _ _ _ _ _, _, _, _, hn, _, _, _, _ => by simp [nthP] at hn
 | .gptr _ _ _, _, _, _, hn, _, _, _, _ => by simp [nthP] at hn
 | .mapr _, _, _, _, hn, _, _, _, _ => by simp [nthP] at hn
 | .nil _, _, _, _, hn, _, _, _, _ => by simp [nthP] at hn
 | .junk, _, _, _, hn, _, _, _, _ => by simp [nthP] at hn

theorem pop_sim (H : RH P C F φ h w) {ρp : Operand → PV} {ρv : Operand → Value} (hρ : ∀ x, RepP F φ h (ρp x) (ρv x)) {o : Oper} {v : PV} {rid : Nat} {W : Wr} (hp : pop P o.op ρp h rid = some (v, W)) :
  Sim P C h ((execOp ρv o).run P w) v W := by
 obtain ⟨dst, op, type, pos, after, guard⟩ := o
 simp only at hp
 unfold pop at hp
 split at hp
 ·simp at hp; obtain ⟨rfl, rfl⟩ := hp; exact Sim.quiet H rfl (hρ _)
 ·simp at hp; obtain ⟨rfl, rfl⟩ := hp; exact Sim.quiet H rfl (hρ _)
 ·rename_i c a b
  have hc := hρ c
  split at hp
  ·rename_i cb hcb
   rw [hcb] at hc
   have hc' : ρv c = .bool cb := RepT.bool_inv hc
   simp at hp; obtain ⟨rfl, rfl⟩ := hp
   refine Sim.quiet H (u := if cb then ρv a else ρv b) ?_ (pickP_rep (hρ a) (hρ b))
   simp [execOp, hc', asBool]
  ·cases hp
 ·rename_i e
  cases hz : zeroL P e with
  | none => rw [hz] at hp; simp at hp
  | some z =>
   rw [hz] at hp; simp only [Option.bind_some] at hp
   split at hp
   ·rename_i hres
    simp at hp; obtain ⟨rfl, rfl⟩ := hp
    exact sim_alloc H hz (isRes_iff.1 hres)
   ·cases hp
 ·rename_i e x
  cases hz : pcells (ρp x) with
  | none => rw [hz] at hp; simp at hp
  | some z =>
   rw [hz] at hp; simp only [Option.bind_some] at hp
   split at hp
   ·rename_i hres
    simp at hp; obtain ⟨rfl, rfl⟩ := hp
    exact sim_box H hz (hρ x) (isRes_iff.1 hres)
   ·cases hp
 ·rename_i t parts
  cases hz : partsO ρp parts with
  | none =>
   rw [hz] at hp; simp only [Option.map_eq_some_iff] at hp
   obtain ⟨x, hx, he⟩ := hp
   simp at he; obtain ⟨rfl, rfl⟩ := he
   exact sim_buildP H hρ hx
  | some ps =>
   rw [hz] at hp; simp only [Option.map_eq_some_iff] at hp
   obtain ⟨x, hx, he⟩ := hp
   simp at he; obtain ⟨rfl, rfl⟩ := he
   exact sim_build H hρ hz hx
 ·rename_i t n parts
  cases hz : partsO ρp parts with
  | none => rw [hz] at hp; simp at hp
  | some ps =>
   rw [hz] at hp; simp only [Option.bind_some, Option.map_eq_some_iff] at hp
   obtain ⟨x, hx, he⟩ := hp
   simp at he; obtain ⟨rfl, rfl⟩ := he
   exact sim_buildSlice H hρ hz hx
 ·rename_i t l c
  have hl := hρ l
  have hc := hρ c
  split at hp
  ·rename_i kl l' kc c' hpl hpc
   rw [hpl] at hl; rw [hpc] at hc
   have ul : ρv l = .int kl l' := RepT.int_inv hl
   have uc : ρv c = .int kc c' := RepT.int_inv hc
   split at hp
   ·rename_i e he
    split at hp
    ·rename_i sz by_ z hsm hz
     split at hp
     ·rename_i hcond
      obtain ⟨h0, hlc, hro, hres, hzl⟩ := hcond
      simp at hp; obtain ⟨rfl, rfl⟩ := hp
      have := sim_makeSlice (kl := kl) (kc := kc) H he hsm hz h0 hlc hro (isRes_iff.1 hres)
      rw [← ul, ← uc] at this
      exact this
     ·cases hp
    ·cases hp
   ·cases hp
  ·cases hp
 ·rename_i t
  split at hp
  ·split at hp
   ·rename_i hres
    simp at hp; obtain ⟨rfl, rfl⟩ := hp
    exact sim_makeMap H (isRes_iff.1 hres)
   ·cases hp
  ·cases hp
 ·exact sim_update H hp (hρ _) (hρ _) (hρ _)
 ·exact sim_update H hp (hρ _) (hρ _) (hρ _)
 ·rename_i t m k ok
  have hm := hρ m
  split at hp
  ·rename_i id k' kt et hpm hpk ht
   rw [hpm] at hm
   split at hp
   ·rename_i t' f z hid hz
    split at hp
    ·rename_i hc
     obtain ⟨rfl, hk⟩ := hc
     simp only [Option.some.injEq, Prod.mk.injEq] at hp
     obtain ⟨rfl, rfl⟩ := hp
     exact sim_lookup H ht hid hz hk hm (PV.toT_rep hpk (hρ k))
    ·cases hp
   ·cases hp
  ·rename_i k' kt et hpm hpk ht
   rw [hpm] at hm
   have um : ρv m = .map none := by generalize ρv m = u at hm; cases hm; rfl
   split at hp
   ·rename_i z hz
    split at hp
    ·rename_i hk
     simp only [Option.some.injEq, Prod.mk.injEq] at hp
     obtain ⟨rfl, rfl⟩ := hp
     have := sim_lookup_nil (ok := ok) H ht hz hk (PV.toT_rep hpk (hρ k))
     rw [← um] at this
     exact this
    ·cases hp
   ·cases hp
  ·cases hp
 ·rename_i t a
  have ha := hρ a
  split at hp
  ·rename_i id ver off hpa
   rw [hpa] at ha
   simp only [Option.bind_eq_some_iff, Option.map_eq_some_iff] at hp
   obtain ⟨cells, hcells, x, hx, he⟩ := hp
   simp at he; obtain ⟨rfl, rfl⟩ := he
   exact sim_load_gptr H hcells ha hx
  ·rename_i id off hpa
   rw [hpa] at ha
   obtain ⟨hb, hu⟩ := ha
   split at hp
   ·rename_i cells hcells
    simp only [Option.map_eq_some_iff] at hp
    obtain ⟨x, hx, he⟩ := hp
    simp at he; obtain ⟨rfl, rfl⟩ := he
    have := sim_load_ptr (t := t) H hcells hx
    rw [← hu] at this
    exact this
   ·rename_i cells hcells
    simp only [Option.map_eq_some_iff] at hp
    obtain ⟨x, hx, he⟩ := hp
    simp at he; obtain ⟨rfl, rfl⟩ := he
    have := sim_load_ro (t := t) H hcells hx
    rw [← hu] at this
    exact this
   ·cases hp
  ·rename_i cs hpa
   rw [hpa] at ha
   simp only [Option.map_eq_some_iff] at hp
   obtain ⟨x, hx, he⟩ := hp
   simp at he; obtain ⟨rfl, rfl⟩ := he
   exact sim_load_cptr H ha hx
  ·cases hp
 ·rename_i t a x
  have ha := hρ a
  split at hp
  ·rename_i id ver off hpa
   rw [hpa] at ha
   split at hp
   ·rename_i v' cells e sz hcells
    split at hp
    ·rename_i hv; subst hv
     simp only [Option.map_eq_some_iff] at hp
     obtain ⟨c', hx, he⟩ := hp
     simp at he; obtain ⟨rfl, rfl⟩ := he
     exact sim_store_gptr H hcells ha hx (hρ x)
    ·cases hp
   ·cases hp
  ·rename_i id off hpa
   rw [hpa] at ha
   obtain ⟨hb, hu⟩ := ha
   split at hp
   ·rename_i cells hcells
    simp only [Option.map_eq_some_iff] at hp
    obtain ⟨c', hx, he⟩ := hp
    simp at he; obtain ⟨rfl, rfl⟩ := he
    have := sim_store (t := t) H hcells hx (hρ x)
    rw [← hu] at this
    exact this
   ·cases hp
  ·cases hp
 ·rename_i x
  have hx := hρ x
  split at hp
  ·rename_i id off hpx
   rw [hpx] at hx
   simp at hp; obtain ⟨rfl, rfl⟩ := hp
   obtain ⟨hb, hu⟩ := hx
   exact Sim.quiet H (u := .pointer (some ⟨(φ id).1, off, none⟩)) (by simp [execOp, hu]) ⟨hb, rfl⟩
  ·rename_i cs hpx
   rw [hpx] at hx
   simp at hp; obtain ⟨rfl, rfl⟩ := hp
   have hx' : RepT F (.cptr cs) (ρv x) := hx
   generalize hu : ρv x = u at hx'
   have hx2 := hx'
   cases hx2 with
   | cptr _ a us _ _ _ => exact Sim.quiet H (u := .pointer (some a)) (by simp [execOp, hu]) hx'
  ·rename_i f pre caps hpx
   rw [hpx] at hx
   simp at hp; obtain ⟨rfl, rfl⟩ := hp
   have hx' : RepT F (.fn f pre caps) (ρv x) := hx
   generalize hu : ρv x = u at hx'
   have hx2 := hx'
   cases hx2 with
   | fn _ _ _ vs us _ _ _ _ => exact Sim.quiet H (u := .func (.func f) vs.toArray us.toArray) (by simp [execOp, hu]) hx'
  ·rename_i id ver off hpx
   rw [hpx] at hx
   simp at hp; obtain ⟨rfl, rfl⟩ := hp
   have hx2 := hx
   obtain ⟨_, _, _, a, _, _, hu, _⟩ := hx2
   rw [hu] at hx
   exact Sim.quiet H (u := .pointer (some a)) (by simp [execOp, hu]) hx
  ·rename_i f ids hpx
   rw [hpx] at hx
   simp at hp; obtain ⟨rfl, rfl⟩ := hp
   obtain ⟨hb, hu⟩ := hx
   exact Sim.quiet H (u := .func (.func f) #[] (ids.map fun id => Value.pointer (some ⟨(φ id).1, 0, none⟩)).toArray) (by simp [execOp, hu]) ⟨hb, rfl⟩
  ·rename_i t name hpx
   rw [hpx] at hx
   split at hp
   ·rename_i f2 hm
    simp at hp; obtain ⟨rfl, rfl⟩ := hp
    obtain ⟨xs, w0, hu, hx0⟩ := hx
    have hahead : ∀ fuel, (nilAhead (fuel + 1) t w0 name).run P w = .ok (some false) w := by
     intro fuel
     unfold methodO at hm
     split at hm
     ·cases hm
     ·rename_i i hi
      split at hm
      ·cases hm
      ·rename_i m hfind
       have hfind' : Array.find? (fun x => x.name == name) i.methods = some m := hfind
       split at hm
       ·cases hm
       ·rename_i f3 d hnp hpath hfunc hund
        simp only [nilAhead, Sem.run_bind, typeInfo, run_program, Result.andThen_ok, hi, Sem.run_pure, hfind', hpath, followBlind, hfunc, run_underlying' hund]
        cases d <;> first | rfl | exact absurd rfl (hnp _)
       ·cases hm
    refine Sim.quiet H (u := .func (.method name) xs #[]) ?_ ⟨xs, w0, rfl, hx0⟩
    have hdep : 0 < Made.depth := by decide
    obtain ⟨k, hk⟩ : ∃ k, P.types.size + Made.depth = k + 1 := ⟨P.types.size + Made.depth - 1, by omega⟩
    simp only [execOp, hu, hx0, Sem.run_bind, run_program, Result.andThen_ok, hk, hahead]
    first | rfl | simp
   ·cases hp
  ·cases hp
 ·rename_i op xt x y yt
  split at hp
  ·rename_i id ver sz o n full hpx hpy
   have hx := hρ x
   have hy := hρ y
   rw [hpx] at hx
   rw [hpy] at hy
   obtain ⟨a, cap, ux, _⟩ := RepP.slice_of hx
   have uy : ρv y = .slice none 0 0 := by generalize ρv y = u at hy; cases hy; rfl
   split at hp
   ·rename_i e he
    simp at hp; obtain ⟨rfl, rfl⟩ := hp
    exact Sim.quiet H (u := .bool false) (by simpa [execOp] using (sim_gnil (w := w) (x := x) (y := y) (sliceO_some he) ux uy).1) (RepT.bool _)
   ·rename_i e he
    simp at hp; obtain ⟨rfl, rfl⟩ := hp
    exact Sim.quiet H (u := .bool true) (by simpa [execOp] using (sim_gnil (w := w) (x := x) (y := y) (sliceO_some he) ux uy).2) (RepT.bool _)
   ·cases hp
  ·rename_i cs n id hpx hpy
   have hx := hρ x
   have hy := hρ y
   rw [hpx] at hx
   rw [hpy] at hy
   have uy : ρv y = .slice none 0 0 := by generalize ρv y = u at hy; cases hy; rfl
   have key : ∀ e, P.underlying xt = some (.slice e) → (((do eqGuard .eql xt x y (ρv x) (ρv y); pure (Next.value (← binOp .eql xt (ρv x) (ρv y)))) : Sem Next).run P w = .ok (.value (.bool (decide (n = 0)))) w) ∧
     (((do eqGuard .neq xt x y (ρv x) (ρv y); pure (Next.value (← binOp .neq xt (ρv x) (ρv y)))) : Sem Next).run P w = .ok (.value (.bool (decide (0 < n)))) w) := by
    intro e he
    rcases Nat.eq_zero_or_pos n with h0 | h0
    ·subst h0
     obtain ⟨_, ux⟩ := hx.1 rfl
     simpa using sim_nilnil (w := w) (x := x) (y := y) he ux uy
    ·obtain ⟨a, cap, ux⟩ : ∃ a cap, ρv x = .slice (some a) n cap := by
      have := hx.2.1 h0
      generalize ρv x = u at this
      cases this with
      | sl _ _ _ a cap => exact ⟨a, cap, rfl⟩
     have e1 : decide (n = 0) = false := by simp; omega
     have e2 : decide (0 < n) = true := by simpa using h0
     rw [e1, e2]
     exact sim_gnil he ux uy
   split at hp
   ·rename_i e he
    simp at hp; obtain ⟨rfl, rfl⟩ := hp
    exact Sim.quiet H (u := .bool (decide (n = 0))) (by simpa [execOp] using (key _ (sliceO_some he)).1) (RepT.bool _)
   ·rename_i e he
    simp at hp; obtain ⟨rfl, rfl⟩ := hp
    exact Sim.quiet H (u := .bool (decide (0 < n))) (by simpa [execOp] using (key _ (sliceO_some he)).2) (RepT.bool _)
   ·cases hp
  ·rename_i a hpx hpy
   have hx := hρ x
   have hy := hρ y
   rw [hpx] at hx
   rw [hpy] at hy
   exact sim_isNil (x := x) H hp hx hy
  ·rename_i id off hpx hpy
   have hx := hρ x
   have hy := hρ y
   rw [hpx] at hx
   rw [hpy] at hy
   have ux := hx.2
   have uy : ρv y = .pointer none := by generalize ρv y = u at hy; cases hy; rfl
   have := sim_ptrNil (x := x) (y := y) (u := ρv x) H hp (.inr ⟨rfl, _, ux⟩)
   rw [← uy] at this
   exact this
  ·rename_i hpx hpy
   have hx := hρ x
   have hy := hρ y
   rw [hpx] at hx
   rw [hpy] at hy
   have ux : ρv x = .pointer none := by generalize ρv x = u at hx; cases hx; rfl
   have uy : ρv y = .pointer none := by generalize ρv y = u at hy; cases hy; rfl
   have := sim_ptrNil (x := x) (y := y) (u := ρv x) H hp (.inl ⟨rfl, ux⟩)
   rw [← uy] at this
   exact this
  ·split at hp
   ·rename_i a b ha hb
    simp only [Option.map_eq_some_iff] at hp
    obtain ⟨c, hc, he⟩ := hp
    simp at he; obtain ⟨rfl, rfl⟩ := he
    exact sim_binOp H hc (PV.toT_rep ha (hρ x)) (PV.toT_rep hb (hρ y))
   ·cases hp
 ·rename_i op xt x
  split at hp
  ·rename_i a ha
   simp only [Option.map_eq_some_iff] at hp
   obtain ⟨c, hc, he⟩ := hp
   simp at he; obtain ⟨rfl, rfl⟩ := he
   exact sim_unOp H hc (PV.toT_rep ha (hρ x))
  ·cases hp
 ·rename_i src dst x
  have hx := hρ x
  split at hp
  ·rename_i k0 n hpx
   rw [hpx] at hx
   have hu : ρv x = .int k0 n := RepT.int_inv hx
   split at hp
   ·rename_i k k' hk hs
    simp at hp; obtain ⟨rfl, rfl⟩ := hp
    have := sim_convert (n := n) (k0 := k0) H hk hs
    rw [← hu] at this
    exact this
   ·cases hp
  ·rename_i s hpx
   rw [hpx] at hx
   split at hp
   ·rename_i e hs hd
    split at hp
    ·rename_i hc
     simp at hp; obtain ⟨rfl, rfl⟩ := hp
     have hu : ρv x = .string s := by generalize ρv x = u at hx; cases hx; rfl
     have := sim_bytesF H hs hd hc.1 hc.2
     rw [← hu] at this
     exact this
    ·cases hp
   ·cases hp
  ·exact sim_text H hp hx
 ·rename_i x xt a
  split at hp
  ·rename_i ha
   exact sim_assert H ha hp (hρ x)
  ·cases hp
 ·rename_i t x
  split at hp
  ·rename_i a ha
   split at hp
   ·rename_i hd
    obtain ⟨d, hd, hn⟩ := plainO_true hd
    simp at hp; obtain ⟨rfl, rfl⟩ := hp
    exact sim_makeInterface H hd hn (PV.toT_rep ha (hρ x))
   ·cases hp
  ·cases hp
 ·rename_i f first caps
  split at hp
  ·rename_i hemp
   have : caps = #[] := by simpa using hemp
   subst this
   simp only [Option.map_eq_some_iff] at hp
   obtain ⟨xs, hxs, he⟩ := hp
   simp at he; obtain ⟨rfl, rfl⟩ := he
   have hrl : RepL F xs (first.toList.map ρv) := allO_toT (h := h) (φ := φ) (l := first.toList.map ρp) (by rw [List.map_map]; exact hxs) (by simp) (fun i p u hp hu => by
    simp only [List.getElem?_map, Option.map_eq_some_iff] at hp hu
    obtain ⟨a, ha, rfl⟩ := hp
    obtain ⟨b, hb, rfl⟩ := hu
    rw [ha] at hb; cases hb
    exact hρ a)
   have e : first.map ρv = (first.toList.map ρv).toArray := by apply Array.ext'; simp
   exact Sim.quiet H (u := .func (.func f) (first.toList.map ρv).toArray #[]) (by simp [execOp, Instr.makeFunc, e]) (RepT.fn f xs [] (first.toList.map ρv) [] hrl.1 hrl.2 rfl (by simp))
  rename_i hemp
  split at hp
  ·cases hp
  rename_i hfirst
  have : first = #[] := by simpa using hfirst
  subst this
  ·simp only [Option.map_eq_some_iff] at hp
   obtain ⟨ids, hids, he⟩ := hp
   simp at he; obtain ⟨rfl, rfl⟩ := he
   obtain ⟨hl, hs⟩ := allO_some hids
   have key : ∀ (i : Nat) (c : Operand) (id : Nat), caps.toList[i]? = some c → ids[i]? = some id → isBox h id ∧ ρv c = .pointer (some ⟨(φ id).1, 0, none⟩) := by
    intro i c id hc hid
    have := hs i c id hc hid
    have hr := hρ c
    unfold capId at this
    split at this
    ·rename_i id' hpc
     simp at this; subst this
     rw [hpc] at hr
     exact hr
    ·cases this
   refine Sim.quiet H (u := .func (.func f) #[] (ids.map fun id => Value.pointer (some ⟨(φ id).1, 0, none⟩)).toArray) ?_ ⟨fun id hid => ?_, rfl⟩
   ·have e : caps.map ρv = (ids.map fun id => Value.pointer (some ⟨(φ id).1, 0, none⟩)).toArray := by
     apply Array.ext'
     rw [Array.toList_map]
     apply List.ext_getElem?
     intro i
     simp only [List.getElem?_map]
     cases hc : caps.toList[i]? with
     | none =>
      have : ids[i]? = none := List.getElem?_eq_none (by rw [hl]; exact List.getElem?_eq_none_iff.1 hc)
      simp [this]
     | some c =>
      have hi : i < ids.length := by rw [hl]; exact (List.getElem?_eq_some_iff.1 hc).1
      rw [List.getElem?_eq_getElem hi]
      simp [(key i c ids[i] hc (List.getElem?_eq_getElem hi)).2]
    simp [execOp, Instr.makeFunc, e]
   ·obtain ⟨i, hi, rfl⟩ := List.getElem_of_mem hid
    have hi' : i < caps.toList.length := by omega
    exact (key i _ _ (List.getElem?_eq_getElem hi') (List.getElem?_eq_getElem hi)).1
 ·rename_i name first caps
  split at hp
  ·rename_i hemp
   have : caps = #[] := by simpa using hemp
   subst this
   split at hp
   ·rename_i a l hfi
    split at hp
    ·rename_i t x hpa
     simp at hp; obtain ⟨rfl, rfl⟩ := hp
     have hr := hρ a
     rw [hpa] at hr
     have hr' : RepT F (.ifc t x) (ρv a) := hr
     generalize hu : ρv a = u at hr'
     cases hr' with
     | ifc _ _ u hx =>
      refine Sim.quiet H (u := .func (.method name) (first.map ρv) #[]) (by simp [execOp, Instr.makeFunc]) ⟨_, u, rfl, ?_⟩
      have h0 : first[0]? = some a := by rw [← Array.getElem?_toList, hfi]; rfl
      rw [Array.getElem?_map, h0]; simp [hu]
    ·cases hp
   ·cases hp
  ·cases hp
 ·rename_i s x f
  have hx := hρ x
  split at hp
  ·rename_i o ft hf
   split at hp
   ·cases hp
   ·rename_i hn
    split at hp
    ·rename_i id off hpx
     rw [hpx] at hx
     obtain ⟨hb, hu⟩ := hx
     simp at hp; obtain ⟨rfl, rfl⟩ := hp
     have := sim_fieldAddr_ptr (off := off) H hf hn hb
     rw [← hu] at this
     exact this
    ·rename_i cs hpx
     rw [hpx] at hx
     simp at hp; obtain ⟨rfl, rfl⟩ := hp
     exact sim_fieldAddr_cptr H hf hn hx
    ·rename_i id ver off hpx
     rw [hpx] at hx
     simp at hp; obtain ⟨rfl, rfl⟩ := hp
     exact sim_fieldAddr_gptr H hf hn hx
    ·cases hp
  ·cases hp
 ·rename_i s x f
  have hx := hρ x
  split at hp
  ·rename_i o ft cs hf hpx
   rw [hpx] at hx
   simp only [Option.map_eq_some_iff] at hp
   obtain ⟨y, hy, he⟩ := hp
   simp at he; obtain ⟨rfl, rfl⟩ := he
   exact sim_field H hf hy hx
  ·rename_i o ft b p q hf hpx
   rw [hpx] at hx
   split at hp
   ·cases hp
   ·rename_i hb
    simp only [Option.bind_eq_some_iff, Option.map_eq_some_iff] at hp
    obtain ⟨cs, hcs, y, hy, he⟩ := hp
    simp at he; obtain ⟨rfl, rfl⟩ := he
    have hb' : b = false := by simpa using hb
    subst hb'
    have hx2 := hx
    obtain ⟨v, us, hu, _⟩ := hx2
    exact sim_field_cons H hf hcs hy hx ⟨_, hu⟩
  ·cases hp
 ·rename_i t x i
  have hi := hρ i
  split at hp
  ·rename_i k n hpi
   rw [hpi] at hi
   have hu : ρv i = .int k n := RepT.int_inv hi
   simp only [Option.map_eq_some_iff] at hp
   obtain ⟨y, hy, he⟩ := hp
   simp at he; obtain ⟨rfl, rfl⟩ := he
   have := sim_indexAddr (k := k) H hy (hρ x)
   rw [← hu] at this
   exact this
  ·cases hp
 ·rename_i t x i
  have hi := hρ i
  split at hp
  ·rename_i k n cs hpi hpx
   rw [hpi] at hi
   have hu : ρv i = .int k n := RepT.int_inv hi
   have hx := PV.toT_rep hpx (hρ x)
   split at hp
   ·rename_i m e ha
    split at hp
    ·rename_i sz hsz
     split at hp
     ·rename_i hb
      simp only [Option.map_eq_some_iff] at hp
      obtain ⟨y, hy, he⟩ := hp
      simp at he; obtain ⟨rfl, rfl⟩ := he
      have := sim_index_agg (k := k) H ha hsz hb hy hx
      rw [← hu] at this
      exact this
     ·cases hp
    ·cases hp
   ·cases hp
  ·rename_i k n s hpi hpx
   rw [hpi] at hi
   have hu : ρv i = .int k n := RepT.int_inv hi
   have hx := PV.toT_rep hpx (hρ x)
   have hs : ρv x = .string s := by generalize ρv x = u at hx; cases hx; rfl
   split at hp
   ·rename_i ht
    split at hp
    ·rename_i hb
     simp only [Option.some.injEq, Prod.mk.injEq] at hp; obtain ⟨rfl, rfl⟩ := hp
     have := sim_index_str (k := k) H ht hb
     rw [← hu, ← hs] at this
     exact this
    ·cases hp
   ·cases hp
  ·cases hp
 ·rename_i t x lo hi mx
  have op : ∀ b : Option Operand, RepOp F φ h (b.map ρp) (b.map ρv) := fun b => by cases b with | none => trivial | some b => exact hρ b
  split at hp
  ·rename_i id ver sz o n full hpx
   have hx := hρ x
   rw [hpx] at hx
   simp only [Option.map_eq_some_iff] at hp
   obtain ⟨y, hy, he⟩ := hp
   simp at he; obtain ⟨rfl, rfl⟩ := he
   exact sim_sliceG H (op lo) (op hi) (op mx) hy hx
  ·split at hp
   ·rename_i a ha
    simp only [Option.map_eq_some_iff] at hp
    obtain ⟨y, hy, he⟩ := hp
    simp at he; obtain ⟨rfl, rfl⟩ := he
    exact sim_slice H (op lo) (op hi) (op mx) hy (PV.toT_rep ha (hρ x))
   ·cases hp
 ·rename_i x i
  have hx := hρ x
  split at hp
  ·rename_i vs hpx
   rw [hpx] at hx
   simp only [Option.map_eq_some_iff] at hp
   obtain ⟨y, hy, he⟩ := hp
   simp at he; obtain ⟨rfl, rfl⟩ := he
   have hx' : RepT F (.tup vs) (ρv x) := hx
   generalize hu : ρv x = u at hx'
   cases hx' with
   | tup _ us hl hr =>
    have hi : i < us.length := by have := (List.getElem?_eq_some_iff.1 hy).1; omega
    refine Sim.quiet H (u := us[i]) ?_ (hr i y _ hy (List.getElem?_eq_getElem hi))
    simp [execOp, hu, Instr.extract, hi]
  ·rename_i b p q hpx
   rw [hpx] at hx
   split at hp
   ·rename_i hb; subst hb
    simp only [Option.map_eq_some_iff] at hp
    obtain ⟨y, hy, he⟩ := hp
    simp at he; obtain ⟨rfl, rfl⟩ := he
    have hx2 := hx
    obtain ⟨v0, us0, hu, _⟩ := hx2
    obtain ⟨us, hus⟩ : ∃ us, v0 :: us0 = us := ⟨_, rfl⟩
    rw [hus] at hu
    obtain ⟨z, hz, rz⟩ := nthP_rep hy hx hu
    have hi : i < us.length := (List.getElem?_eq_some_iff.1 hz).1
    rw [List.getElem?_eq_getElem hi] at hz; cases hz
    refine Sim.quiet H (u := us[i]) ?_ rz
    simp [execOp, hu, mkV, Instr.extract, hi]
   ·cases hp
  ·cases hp
 ·rename_i b args ts
  unfold popB at hp
  split at hp
  ·rename_i t tsr x hts hargs
   have hts0 : ts[0]? = some t := by rw [← Array.getElem?_toList, hts]; rfl
   split at hp
   ·rename_i id ver sz o n full
    simp only [Option.map_eq_some_iff] at hp
    obtain ⟨e, he, he2⟩ := hp
    simp at he2; obtain ⟨rfl, rfl⟩ := he2
    obtain ⟨l⟩ := args
    obtain ⟨y, rfl⟩ : ∃ y, l = [y] := by
     cases l with
     | nil => simp at hargs
     | cons y l => cases l with
      | nil => exact ⟨y, rfl⟩
      | cons => simp at hargs
    simp at hargs
    have hy := hρ y
    rw [hargs] at hy
    obtain ⟨a, cap, ux, _⟩ := RepP.slice_of hy
    refine Sim.quiet H (u := .int .i64 n) ?_ (RepT.int _ _)
    simp [execOp, resolve, invoke, builtin, ux, run_lenG he hts0]
   ·rename_i cs n id
    simp only [Option.map_eq_some_iff] at hp
    obtain ⟨e, he, he2⟩ := hp
    simp at he2; obtain ⟨rfl, rfl⟩ := he2
    obtain ⟨l⟩ := args
    obtain ⟨y, rfl⟩ : ∃ y, l = [y] := by
     cases l with
     | nil => simp at hargs
     | cons y l => cases l with
      | nil => exact ⟨y, rfl⟩
      | cons => simp at hargs
    simp at hargs
    have hy := hρ y
    rw [hargs] at hy
    obtain ⟨a, cap, ux⟩ : ∃ a cap, ρv y = .slice a n cap := by
     rcases Nat.eq_zero_or_pos n with h0 | h0
     ·obtain ⟨_, ux⟩ := hy.1 h0; exact ⟨none, 0, by rw [ux, h0]⟩
     ·have := hy.2.1 h0
      generalize ρv y = u at this
      cases this with
      | sl _ _ _ a cap => exact ⟨_, _, rfl⟩
    refine Sim.quiet H (u := .int .i64 n) ?_ (RepT.int _ _)
    simp [execOp, resolve, invoke, builtin, ux, run_lenG he hts0]
   split at hp
   ·rename_i xt hxt
    simp only [Option.map_eq_some_iff] at hp
    obtain ⟨n, hn, he⟩ := hp
    simp at he; obtain ⟨rfl, rfl⟩ := he
    obtain ⟨l⟩ := args
    match l, hargs with
    | [y], hargs =>
     simp at hargs; subst hargs
     refine Sim.quiet H (u := .int .i64 n) ?_ (RepT.int _ _)
     simp [execOp, resolve, invoke, builtin, run_len hn (PV.toT_rep hxt (hρ y)) hts0]
   ·cases hp
  ·simp only [Option.bind_eq_some_iff, Option.map_eq_some_iff] at hp
   obtain ⟨l, hl, y, hy, he⟩ := hp
   simp at he; obtain ⟨rfl, rfl⟩ := he
   have hrl : RepL F l (args.toList.map ρv) := allO_toT (h := h) (φ := φ) hl (by simp) (fun i p u hp hu => by
    simp only [List.getElem?_map, Option.map_eq_some_iff] at hp hu
    obtain ⟨a, ha, rfl⟩ := hp
    obtain ⟨b, hb, rfl⟩ := hu
    rw [ha] at hb; cases hb
    exact hρ a)
   obtain ⟨q, hq, rq⟩ := run_min (P := P) (w := w) (ts := ts) (ty := type) hy hrl
   refine Sim.quiet H (u := q) ?_ rq
   have e : args.map ρv = (args.toList.map ρv).toArray := by apply Array.ext'; simp
   simp only [execOp, resolve, invoke, builtin, Sem.run_bind, Sem.run_pure, Result.andThen_ok, e, hq]
  ·simp only [Option.bind_eq_some_iff, Option.map_eq_some_iff] at hp
   obtain ⟨l, hl, y, hy, he⟩ := hp
   simp at he; obtain ⟨rfl, rfl⟩ := he
   have hrl : RepL F l (args.toList.map ρv) := allO_toT (h := h) (φ := φ) hl (by simp) (fun i p u hp hu => by
    simp only [List.getElem?_map, Option.map_eq_some_iff] at hp hu
    obtain ⟨a, ha, rfl⟩ := hp
    obtain ⟨b, hb, rfl⟩ := hu
    rw [ha] at hb; cases hb
    exact hρ a)
   obtain ⟨q, hq, rq⟩ := run_max (P := P) (w := w) (ts := ts) (ty := type) hy hrl
   refine Sim.quiet H (u := q) ?_ rq
   have e : args.map ρv = (args.toList.map ρv).toArray := by apply Array.ext'; simp
   simp only [execOp, resolve, invoke, builtin, Sem.run_bind, Sem.run_pure, Result.andThen_ok, e, hq]
  ·rename_i t t' s x hts hargs
   have hts' : ts = #[t, t'] := by apply Array.ext'; simpa using hts
   subst hts'
   obtain ⟨l⟩ := args
   match l, hargs with
   | [a, b], hargs =>
    simp at hargs; obtain ⟨rfl, rfl⟩ := hargs
    have := sim_appendG (ty := type) H hp (hρ a) (hρ b)
    simpa only [execOp, resolve, invoke, builtin, Sem.run_bind, Sem.run_pure, Result.andThen_ok, List.map_toArray, List.map_cons, List.map_nil] using this
  ·cases hp
 ·cases hp

theorem RH.freeze (H : RH P C F φ h w) {id : Nat} {cs : List TV} (hf : frozenO h id = some cs) :
  ∃ F', RH P C F' φ (upo h id (.ro cs)) w ∧ F.le F' ∧ HStep φ φ h (upo h id (.ro cs)) ∧ RepT F' (.cptr cs) (.pointer (some ⟨(φ id).1, 0, none⟩)) := by
 have hob := H.objs id
 unfold frozenO at hf
 split at hf
 ·rename_i cells hid
  have hlv : (h id).live = true := by rw [hid]; rfl
  rw [hid] at hob
  obtain ⟨us, ty, h1, h2, h3, h4⟩ := hob
  have hrl : RepL F cs us := by
   obtain ⟨e1, e2⟩ := allO_some hf
   refine ⟨by omega, fun i c u hc hu => ?_⟩
   have hi : i < cells.length := by have := (List.getElem?_eq_some_iff.1 hu).1; omega
   exact PV.toT_rep (e2 i _ c (List.getElem?_eq_getElem hi) hc) (h3 i _ u (List.getElem?_eq_getElem hi) hu).1
  have hone : ∀ (i : Nat) (u : Value), us[i]? = some u → u.oneCell' = true := fun i u hu => by
   have hi : i < cells.length := by have := (List.getElem?_eq_some_iff.1 hu).1; omega
   exact (h3 i _ u (List.getElem?_eq_getElem hi) hu).2
  have hle : F.le (F.with (φ id).1 us) := by
   intro a u hu
   unfold Fz.with
   split
   ·rename_i hc
    obtain ⟨b, o, s⟩ := a
    simp only at hc; obtain ⟨rfl, rfl⟩ := hc
    rw [h4 o] at hu; cases hu
   ·exact hu
  have hs : HStep φ (upd φ id (φ id)) h (upo h id (.ro cs)) := HStep.one (φ id) (by rw [hid]; exact ⟨.inr ⟨cs, rfl⟩, rfl⟩)
  have := H.put (F' := F.with (φ id).1 us) (w' := w) (.ro cs) (φ id) hs hle (fun a u hu => by
   unfold Fz.with at hu
   split at hu
   ·rename_i hc
    obtain ⟨b, o, s⟩ := a
    simp only at hc hu; obtain ⟨rfl, rfl⟩ := hc
    rw [look_at h1]; exact hu
   ·exact H.agree _ _ hu) (fun a u hu hn => by
   unfold Fz.with at hu
   split at hu
   ·rename_i hc; exact .inr ⟨hc.1, hlv⟩
   ·rw [hn] at hu; cases hu) (Bel.refl _ _) (.inr ⟨rfl, hlv⟩) ⟨us, ty, by rw [upd_self]; exact h1, hrl.mono hle, hone, fun i u hu => by rw [upd_self, Fz.with_at]; exact hu⟩
  rw [upd_self] at this hs
  exact ⟨_, this, hle, hs, .cptr cs _ us hrl.1 (fun i u hu => ⟨by rw [add_plain, Nat.zero_add, Fz.with_at]; exact hu, hone i u hu⟩) (hrl.mono hle).2⟩
 ·rename_i cells hid
  cases hf
  have e : upo h id (.ro cs) = h := by funext j; unfold upo; split <;> simp_all
  rw [e]
  rw [hid] at hob
  obtain ⟨us, ty, h1, h2, h3, h4⟩ := hob
  exact ⟨F, H, Fz.le_refl _, HStep.refl _ _, .cptr cs _ us h2.1 (fun i u hu => ⟨by rw [add_plain, Nat.zero_add]; exact h4 i u hu, h3 i u hu⟩) h2.2⟩
 ·cases hf

theorem frozenO_upo {id j : Nat} {cs : List TV} (hf : frozenO h id = some cs) : frozenO (upo h id (.ro cs)) j = frozenO h j := by
 by_cases e : j = id
 ·subst e; rw [hf]; unfold frozenO; rw [upo_same]
 ·unfold frozenO; rw [upo_other h _ e]

theorem RH.freezes : ∀ (ids : List Nat) (css : List (List TV)) {F : Fz} {h : Hp} (_ : RH P C F φ h w) (_ : allO (ids.map (frozenO h)) = some css),
  ∃ F', RH P C F' φ (wr h ((ids.zip css).map fun p => (p.1, PO.ro p.2))) w ∧ F.le F' ∧ RepL F' (css.map .cptr) (ids.map fun id => .pointer (some ⟨(φ id).1, 0, none⟩))
 | [], css, F, h, H, hc => by
  simp [allO] at hc; subst hc
  exact ⟨F, H, Fz.le_refl _, .nil⟩
 | id :: ids, css, F, h, H, hc => by
  simp only [List.map_cons] at hc
  cases hf : frozenO h id with
  | none => rw [hf] at hc; simp [allO] at hc
  | some cs =>
   rw [hf] at hc
   simp only [allO, Option.map_eq_some_iff] at hc
   obtain ⟨css', hc', rfl⟩ := hc
   obtain ⟨F1, H1, l1, _, r1⟩ := H.freeze hf
   obtain ⟨F2, H2, l2, r2⟩ := RH.freezes ids css' H1 (by
    have : ids.map (frozenO (upo h id (.ro cs))) = ids.map (frozenO h) := List.map_congr_left fun j _ => frozenO_upo hf
    rw [this]; exact hc')
   exact ⟨F2, H2, Fz.le_trans l1 l2, RepL.cons (r1.mono l2) r2⟩

theorem popF_sim (H : RH P C F φ h w) {ρp : Operand → PV} {ρv : Operand → Value} (hρ : ∀ x, RepP F φ h (ρp x) (ρv x)) {o : Oper} {v : PV} {W : Wr} {ids : List Nat} (hp : popF o.op ρp h = some (v, W, ids)) :
  Sim P C h ((execOp ρv o).run P w) v W := by
 obtain ⟨dst, op, type, pos, after, guard⟩ := o
 simp only at hp
 unfold popF at hp
 split at hp
 ·rename_i f first caps
  split at hp
  ·cases hp
  rename_i hfirst
  have : first = #[] := by simpa using hfirst
  subst this
  split at hp
  ·rename_i is his
   simp only [Option.map_eq_some_iff] at hp
   obtain ⟨css, hcss, he⟩ := hp
   simp at he; obtain ⟨rfl, rfl, rfl⟩ := he
   obtain ⟨hl, hs⟩ := allO_some his
   obtain ⟨F', H', hle, hrl⟩ := RH.freezes is css H hcss
   refine ⟨F', φ, .func (.func f) #[] (is.map fun id => Value.pointer (some ⟨(φ id).1, 0, none⟩)).toArray, w, .inl ?_, H', RepT.fn f [] _ [] _ rfl (by simp) hrl.1 hrl.2⟩
   have e : caps.map ρv = (is.map fun id => Value.pointer (some ⟨(φ id).1, 0, none⟩)).toArray := by
    apply Array.ext'
    rw [Array.toList_map]
    apply List.ext_getElem?
    intro i
    simp only [List.getElem?_map]
    cases hc : caps.toList[i]? with
    | none =>
     have : is[i]? = none := List.getElem?_eq_none (by rw [hl]; exact List.getElem?_eq_none_iff.1 hc)
     simp [this]
    | some c =>
     have hi : i < is.length := by rw [hl]; exact (List.getElem?_eq_some_iff.1 hc).1
     have h1 := hs i c is[i] hc (List.getElem?_eq_getElem hi)
     have h2 := hρ c
     rw [List.getElem?_eq_getElem hi]
     unfold capId at h1
     split at h1
     ·rename_i id' hpc
      simp at h1; subst h1
      rw [hpc] at h2
      simp [h2.2]
     ·cases h1
   simp [execOp, Instr.makeFunc, e]
  ·cases hp
 ·cases hp

theorem popM_sim (H : RH P C F φ h w) {ρp : Operand → PV} {ρv : Operand → Value} (hρ : ∀ x, RepP F φ h (ρp x) (ρv x)) {o : Oper} {v : PV} {rid : Nat} {W : Wr} (hp : popM P o.op ρp h rid = some (v, W)) :
  Sim P C h ((execOp ρv o).run P w) v W := by
 obtain ⟨dst, op, type, pos, after, guard⟩ := o
 simp only at hp
 unfold popM at hp
 split at hp
 ·rename_i t n parts
  simp only [Option.bind_eq_some_iff] at hp
  obtain ⟨cs, hcs, hp⟩ := hp
  split at hp
  ·rename_i e he
   split at hp
   ·rename_i sz by_ hsm
    split at hp
    ·rename_i hres
     simp at hp; obtain ⟨rfl, rfl⟩ := hp
     obtain ⟨i, z, hi, hz, hsz, hzs, hpos, hby, hb0, hco⟩ := smallO_some hsm
     cases hps : partsO ρp parts with
     | some ps =>
      rw [hps] at hcs
      simp only [cellsM, Option.map_eq_some_iff] at hcs
      obtain ⟨cs', hcs', rfl⟩ := hcs
      exact sim_buildSliceM H hρ hps hcs' he (by simp [szO, hi, hsz]) hco (isRes_iff.1 hres)
     | none =>
      rw [hps] at hcs
      exact sim_buildSliceP H hρ hcs he (by simp [szO, hi, hsz]) hco (isRes_iff.1 hres)
    ·cases hp
   ·cases hp
  ·cases hp
 ·rename_i t
  split at hp
  ·rename_i hc
   simp at hp; obtain ⟨rfl, rfl⟩ := hp
   exact sim_makeMapO H (isRes_iff.1 hc.2)
  ·split at hp
   ·rename_i hc
    simp at hp; obtain ⟨rfl, rfl⟩ := hp
    exact sim_makeMapK H (isRes_iff.1 hc.2)
   ·cases hp
 ·rename_i t m k
  have hm := hρ m
  have hk := hρ k
  split at hp
  ·rename_i id i hpm hpk
   rw [hpm] at hm; rw [hpk] at hk
   have uk := RepT.int_inv hk
   have := sim_lookM H hp hm
   rw [← uk] at this
   exact this
  ·rename_i id xs hpm hpk
   rw [hpm] at hm; rw [hpk] at hk
   exact sim_lookK H hp hm hk
  ·rename_i t' vs i hpm hpk
   rw [hpm] at hm; rw [hpk] at hk
   split at hp
   ·rename_i hc
    obtain ⟨rfl, hi, h0⟩ := hc
    simp only [Option.map_eq_some_iff] at hp
    obtain ⟨x, hx, he⟩ := hp
    simp at he; obtain ⟨rfl, rfl⟩ := he
    have uk := RepT.int_inv hk
    have := sim_lookF H hi h0 hx hm
    rw [← uk] at this
    exact this
   ·cases hp
  ·cases hp
 ·rename_i t m k x
  have hm := hρ m
  have hk := hρ k
  split at hp
  ·rename_i id i hpm hpk
   rw [hpm] at hm; rw [hpk] at hk
   have uk := RepT.int_inv hk
   have := sim_updM H hp hm (hρ x)
   rw [← uk] at this
   exact this
  ·rename_i id xs hpm hpk
   rw [hpm] at hm; rw [hpk] at hk
   exact sim_updK H hp hm hk (hρ x)
  ·cases hp
 ·rename_i args ts
  split at hp
  ·rename_i t t' s x hts hargs
   have hts' : ts = #[t, t'] := by apply Array.ext'; simpa using hts
   subst hts'
   obtain ⟨l⟩ := args
   match l, hargs with
   | [a, b], hargs =>
    simp at hargs; obtain ⟨rfl, rfl⟩ := hargs
    have := sim_appendG (ty := type) H hp (hρ a) (hρ b)
    simpa only [execOp, resolve, invoke, builtin, Sem.run_bind, Sem.run_pure, Result.andThen_ok, List.map_toArray, List.map_cons, List.map_nil] using this
  ·cases hp
 ·rename_i src dst x
  split at hp
  ·rename_i s hpx
   have hx := hρ x
   rw [hpx] at hx
   split at hp
   ·rename_i e hs hd
    split at hp
    ·rename_i by_ hsm
     split at hp
     ·rename_i hc
      simp at hp; obtain ⟨rfl, rfl⟩ := hp
      have hu : ρv x = .string s := by generalize ρv x = u at hx; cases hx; rfl
      obtain ⟨i, z, hi, hz, hsz, hzs, hpos, hby, hb0, hco⟩ := smallO_some hsm
      have := sim_bytesM H hs hd hc.1 hco hc.2.1 (isRes_iff.1 hc.2.2)
      rw [← hu] at this
      exact this
     ·cases hp
    ·cases hp
   ·cases hp
  ·cases hp
 ·rename_i t
  split at hp
  ·rename_i zs sz by_ hz hsm
   split at hp
   ·rename_i hres
    simp at hp; obtain ⟨rfl, rfl⟩ := hp
    exact sim_allocM H hsm hz (isRes_iff.1 hres)
   ·cases hp
  ·cases hp
 ·cases hp

/-! ### Rows that are never written again -/
theorem thawC_rep (H : RH P C F φ h w) {p : PV} {x : TV} {u : Value} (hp : thawC h p = some x) (hr : RepP F φ h p u) : RepT F x u := by
 unfold thawC at hp
 split at hp
 ·rename_i id ver sz o n full
  split at hp
  ·rename_i v cells e sz' hid
   split at hp
   ·rename_i hc
    obtain ⟨rfl, rfl, hle⟩ := hc
    cases hp
    have hob := H.objs id
    rw [hid] at hob
    obtain ⟨us, ⟨mk, h1, _⟩, h2, h3, h4, h5⟩ := hob
    obtain ⟨v', e', cap, a, q1, q2, rfl, q4, q5, q6, q7⟩ := hr
    rw [hid] at q1; cases q1
    obtain ⟨p1, p2, p3⟩ := q7 rfl
    have hmul : (o + n) * sz' = o * sz' + n * sz' := Nat.add_mul _ _ _
    have key : ∀ (i : Nat) (u : Value), ((us.drop (o * sz')).take (n * sz'))[i]? = some u → i < n * sz' ∧ us[o * sz' + i]? = some u := fun i u hu => by
     rw [List.getElem?_take] at hu
     split at hu
     ·rename_i hi
      rw [List.getElem?_drop] at hu
      exact ⟨hi, hu⟩
     ·cases hu
    refine .sl _ _ _ _ _ ((us.drop (o * sz')).take (n * sz')) (by simp only [List.length_take, List.length_drop]; omega) (fun i u hu => ?_) (fun i c u hc hu => ?_) q4 q6 q5
    ·obtain ⟨hi, hu'⟩ := key i u hu
     have h0 : 0 < cap := by
      rcases Nat.eq_zero_or_pos n with h0 | h0
      ·subst h0; omega
      ·omega
     obtain ⟨c, hc⟩ : ∃ c, cells[o * sz' + i]? = some c := ⟨_, List.getElem?_eq_getElem (by omega)⟩
     rw [addr_add_spot (p2 h0)]
     exact ⟨(h5 _ c u hc hu').2.2, (h5 _ c u hc hu').2.1⟩
    ·obtain ⟨hi, hu'⟩ := key i u hu
     rw [List.getElem?_take, if_pos hi, List.getElem?_drop] at hc
     exact (h5 _ c u hc hu').1
   ·cases hp
  ·cases hp
 ·rename_i id
  split at hp
  ·rename_i t vs hid
   cases hp
   have hob := H.objs id
   rw [hid] at hob
   obtain ⟨t', _, rfl⟩ := hr
   exact hob.2
  ·cases hp
 ·exact PV.toT_rep hp hr

theorem mkV_flag {b b' : Bool} {us us' : List Value} (h : mkV b us = mkV b' us') : b = b' := by
 cases b <;> cases b' <;> simp [mkV] at h ⊢
theorem thawA_rep (H : RH P C F φ h w) : ∀ {p : PV} {l : List TV} {b : Bool} {us : List Value}, thawA h p = some l → RepP F φ h p (mkV b us) → RepL F l us ∧ (b = false → Ones us)
 | .nil b', l, b, us, h1, hr => by
  simp [thawA] at h1; subst h1
  have : us = [] := mkV_inj (show mkV b us = mkV b' [] from hr)
  subst this
  exact ⟨.nil, fun _ i u hu => by simp at hu⟩
 | .cons b' p q, l, b, us, h1, hr => by
  simp only [thawA] at h1
  split at h1
  ·rename_i x l' hx hl
   cases h1
   obtain ⟨v, us', hu, r1, r2, r3⟩ := hr
   have e := mkV_inj hu
   have e2 := mkV_flag hu
   subst e; subst e2
   obtain ⟨i1, i2⟩ := thawA_rep H hl r2
   refine ⟨RepL.cons (thawC_rep H hx r1) i1, fun hb i u hi => ?_⟩
   cases i with
   | zero => simp at hi; subst hi; exact r3 hb
   | succ i => exact i2 hb i u (by simpa using hi)
  ·cases h1
 | .t _, _, _, _, hn, _ => by simp [thawA] at hn
 | .ptr _ _, _, _, _, hn, _ => by simp [thawA] at hn
 | .own _ _ _, _, _, _, hn, _ => by simp [thawA] at hn
 | .fnc _ _, _, _, _, hn, _ => by simp [thawA] at hn
 | .yld _, _, _, _, hn, _ => by simp [thawA] at hn
 | .mth _ _, _, _, _, hn, _ => by simp [thawA] at hn
 | .cond _ _, _, _, _, hn, _ => by simp [thawA] at hn
 | .gsl _ _ _ _ _ _, _, _, _, hn, _ => by simp [thawA] at hn
 | .gptr _ _ _, _, _, _, hn, _ => by simp [thawA] at hn
 | .mapr _, _, _, _, hn, _ => by simp [thawA] at hn
 | .junk, _, _, _, hn, _ => by simp [thawA] at hn

theorem thawP_rep (H : RH P C F φ h w) {p : PV} {u : Value} (hr : RepP F φ h p u) : RepP F φ h (thawP h p) u := by
 unfold thawP
 split
 ·rename_i b p q
  split
  ·rename_i l hl
   have hr2 := hr
   obtain ⟨v, us, hu, _⟩ := hr2
   rw [hu] at hr
   obtain ⟨r1, r2⟩ := thawA_rep H hl hr
   rw [hu]
   cases b with
   | true => exact RepT.tup _ _ r1.1 r1.2
   | false => exact RepT.agg _ _ r1.1 (r2 rfl) r1.2
  ·exact hr
 ·split
  ·rename_i x hx
   exact thawC_rep H hx hr
  ·exact hr

theorem RH.freezeRow (H : RH P C F φ h w) {id : Nat} {o : PO} (hf : freezeO h id = some o) : ∃ F', RH P C F' φ (upo h id o) w ∧ F.le F' ∧ HStep φ φ h (upo h id o) := by
 have hob := H.objs id
 unfold freezeO at hf
 split at hf
 ·rename_i v cells e sz hid
  simp only [Option.map_eq_some_iff] at hf
  obtain ⟨cs, hcs, rfl⟩ := hf
  have hlv : (h id).live = true := by rw [hid]; rfl
  rw [hid] at hob
  obtain ⟨us, ⟨mk, h1, hmk⟩, h2, h3, h4, h5, h6⟩ := hob
  obtain ⟨e1, e2⟩ := allO_some hcs
  have hle : F.le (F.with (φ id).1 (us.take cells.length)) := by
   intro a u hu
   unfold Fz.with
   split
   ·rename_i hc
    obtain ⟨b, o, s⟩ := a
    simp only at hc; obtain ⟨rfl, rfl⟩ := hc
    rw [h6 o] at hu; cases hu
   ·exact hu
  have hs : HStep φ (upd φ id (φ id)) h (upo h id (.gro v cs e sz)) := HStep.one (φ id) (by rw [hid]; exact ⟨v, rfl, Nat.le_refl _, fun _ => rfl⟩)
  have := H.put (F' := F.with (φ id).1 (us.take cells.length)) (w' := w) (.gro v cs e sz) (φ id) hs hle (fun a u hu => by
   unfold Fz.with at hu
   split at hu
   ·rename_i hc
    obtain ⟨b, o, s⟩ := a
    simp only at hc hu; obtain ⟨rfl, rfl⟩ := hc
    rw [look_at h1]
    rw [List.getElem?_take] at hu
    split at hu
    ·exact hu
    ·cases hu
   ·exact H.agree _ _ hu) (fun a u hu hn => by
   unfold Fz.with at hu
   split at hu
   ·rename_i hc; exact .inr ⟨hc.1, hlv⟩
   ·rw [hn] at hu; cases hu) (Bel.refl _ _) (.inr ⟨rfl, hlv⟩) ⟨us, by rw [upd_self]; exact ⟨mk, h1, hmk⟩, by rw [upd_self]; exact h2, by omega, h4, fun i c u hc hu => by
    have hi : i < cells.length := by have := (List.getElem?_eq_some_iff.1 hc).1; omega
    have hci : cells[i]? = some cells[i] := List.getElem?_eq_getElem hi
    have := h5 i _ u hci hu
    refine ⟨(thawC_rep H (e2 i _ c hci hc) this.1).mono hle, this.2, ?_⟩
    rw [upd_self, Fz.with_at, List.getElem?_take, if_pos hi]; exact hu⟩
  rw [upd_self] at this hs
  exact ⟨_, this, hle, hs⟩
 ·rename_i v cells e sz hid
  cases hf
  have e : upo h id (.gro v cells e sz) = h := by funext j; unfold upo; split <;> simp_all
  rw [e]
  exact ⟨F, H, Fz.le_refl _, HStep.refl _ _⟩
 ·rename_i t ps hid
  simp only [Option.map_eq_some_iff] at hf
  obtain ⟨cs, hcs, rfl⟩ := hf
  have hlv : (h id).live = true := by rw [hid]; rfl
  rw [hid] at hob
  obtain ⟨es, clock, kv, h1, h2, h3, h4⟩ := hob
  obtain ⟨e1, e2⟩ := allO_some hcs
  have hsame : look w ⟨(φ id).1, 0, some 0⟩ = some (mapV kv) := by
   unfold look
   simp only [h1, and_self, if_true, Option.some.injEq]
   unfold mapV
   congr 2
   have := congrArg (List.map fun p : Value × Value => Value.tuple #[p.1, p.2]) h2
   simp only [List.map_map] at this
   exact this
  let F1 : Fz := fun a => if a = ⟨(φ id).1, 0, some 0⟩ then some (mapV kv) else F a
  have hle : F.le F1 := by
   intro a u hu
   show (if a = _ then _ else _) = some u
   split
   ·rename_i hc
    rw [h4 a (by rw [hc])] at hu; cases hu
   ·exact hu
  have hs : HStep φ (upd φ id (φ id)) h (upo h id (.mfz t cs)) := HStep.one (φ id) (by rw [hid]; exact ⟨rfl, rfl⟩)
  have := H.put (F' := F1) (w' := w) (.mfz t cs) (φ id) hs hle (fun a u hu => by
   have hu' : (if a = _ then _ else _) = some u := hu
   split at hu'
   ·rename_i hc; subst hc; rw [hsame]; exact hu'
   ·exact H.agree _ _ hu') (fun a u hu hn => by
   have hu' : (if a = _ then _ else _) = some u := hu
   split at hu'
   ·rename_i hc; exact .inr ⟨by rw [hc], hlv⟩
   ·rw [hn] at hu'; cases hu') (Bel.refl _ _) (.inr ⟨rfl, hlv⟩) ⟨⟨es, clock, by rw [upd_self]; exact h1⟩, by
    rw [upd_self]
    refine .imap t cs _ kv (ps.zipIdx.map fun p => lookI kv p.2) (by show (if _ then _ else _) = _; rw [if_pos rfl]) (by simp [e1]) (fun i u hu => ?_) (fun i c u hc hu => ?_)
    ·simp only [List.getElem?_map, Option.map_eq_some_iff, List.getElem?_zipIdx] at hu
     obtain ⟨q, ⟨p, hp, rfl⟩, rfl⟩ := hu
     simp
    ·simp only [List.getElem?_map, Option.map_eq_some_iff, List.getElem?_zipIdx] at hu
     obtain ⟨q, ⟨p, hp, rfl⟩, rfl⟩ := hu
     simp only [Nat.zero_add]
     exact (thawC_rep H (e2 i p c hp hc) (h3 i p hp)).mono hle⟩
  rw [upd_self] at this hs
  exact ⟨_, this, hle, hs⟩
 ·rename_i t vs hid
  cases hf
  have e : upo h id (.mfz t vs) = h := by funext j; unfold upo; split <;> simp_all
  rw [e]
  exact ⟨F, H, Fz.le_refl _, HStep.refl _ _⟩
 ·rename_i t m hid
  cases hf
  have e : upo h id (.mp t m) = h := by funext j; unfold upo; split <;> simp_all
  rw [e]
  exact ⟨F, H, Fz.le_refl _, HStep.refl _ _⟩
 ·cases hf

theorem RH.freezeRows : ∀ (ids : List Nat) {W : Wr} {F : Fz} {h : Hp} (_ : RH P C F φ h w) (_ : freezeW h ids = some W), ∃ F', RH P C F' φ (wr h W) w ∧ F.le F' ∧ HStep φ φ h (wr h W)
 | [], W, F, h, H, hw => by simp [freezeW] at hw; subst hw; exact ⟨F, H, Fz.le_refl _, HStep.refl _ _⟩
 | id :: ids, W, F, h, H, hw => by
  simp only [freezeW] at hw
  split at hw
  ·rename_i o ho
   simp only [Option.map_eq_some_iff] at hw
   obtain ⟨W', hw', rfl⟩ := hw
   obtain ⟨F1, H1, l1, s1⟩ := H.freezeRow ho
   obtain ⟨F2, H2, l2, s2⟩ := RH.freezeRows ids H1 hw'
   exact ⟨F2, H2, Fz.le_trans l1 l2, s1.trans s2⟩
  ·cases hw

end Go.Pm

/- Part QmJ. -/
namespace Go.Pm
open Go Go.RowKit

variable {P : Program} {C : Cx} {F F' : Fz} {φ φ' φl φl' : Nat → Nat × Nat} {h h' hl hl' : Hp} {w w' : World}

structure Ren (ids : List Nat) (φ : Nat → Nat × Nat) (h : Hp) (φl : Nat → Nat × Nat) (hl : Hp) : Prop where
 at_ : ∀ (i j : Nat), ids[i]? = some j → h j = (hl i).ren ids ∧ φ j = φl i
 out : ∀ i, ids.length ≤ i → hl i = .res

theorem getD_of {ids : List Nat} {i j : Nat} (h : ids[i]? = some j) : ids.getD i 0 = j := by rw [List.getD_eq_getElem?_getD, h]; rfl
theorem at_lt {ids : List Nat} {i : Nat} (h : i < ids.length) : ids[i]? = some (ids.getD i 0) := by rw [List.getD_eq_getElem?_getD, List.getElem?_eq_getElem h]; rfl

theorem Ren.box {ids : List Nat} (R : Ren ids φ h φl hl) {i : Nat} (hi : i < ids.length) : isBox h (ids.getD i 0) ↔ isBox hl i := by
 have := (R.at_ i _ (at_lt hi)).1
 unfold isBox
 rw [this]
 cases hl i with
 | box c => simp [PO.ren]
 | ro c => simp [PO.ren]
 | _ => simp [PO.ren]
theorem Ren.lt_of_box {ids : List Nat} (R : Ren ids φ h φl hl) {i : Nat} (hb : isBox hl i) : i < ids.length := by
 rcases Nat.lt_or_ge i ids.length with h1 | h1
 ·exact h1
 ·rcases hb with ⟨c, hc⟩ | ⟨c, hc⟩ <;> (rw [R.out i h1] at hc; cases hc)
theorem Ren.grow {ids : List Nat} (R : Ren ids φ h φl hl) {i : Nat} (hi : i < ids.length) : growInfo (h (ids.getD i 0)) = growInfo (hl i) := by
 rw [(R.at_ i _ (at_lt hi)).1]; cases hl i <;> rfl
theorem Ren.map {ids : List Nat} (R : Ren ids φ h φl hl) {i : Nat} (hi : i < ids.length) : mapInfo (h (ids.getD i 0)) = mapInfo (hl i) := by
 rw [(R.at_ i _ (at_lt hi)).1]; cases hl i <;> rfl
theorem Ren.lt_of {ids : List Nat} (R : Ren ids φ h φl hl) {i : Nat} (hb : hl i ≠ .res) : i < ids.length := by
 rcases Nat.lt_or_ge i ids.length with h1 | h1
 ·exact h1
 ·exact absurd (R.out i h1) hb
theorem Ren.live {ids : List Nat} (R : Ren ids φ h φl hl) {i j : Nat} (hi : ids[i]? = some j) : (h j).live = (hl i).live := by
 rw [(R.at_ i j hi).1]; cases hl i <;> rfl
theorem Ren.lt_of_live {ids : List Nat} (R : Ren ids φ h φl hl) {i : Nat} (hb : (hl i).live = true) : i < ids.length := by
 rcases Nat.lt_or_ge i ids.length with h1 | h1
 ·exact h1
 ·rw [R.out i h1] at hb; cases hb

theorem Ren.down {ids : List Nat} (R : Ren ids φ h φl hl) {p : PV} {u : Value} (hu : p.under ids.length = true) (hr : RepP F φ h (p.ren ids) u) : RepP F φl hl p u := by
 induction p generalizing u with
 | t x => exact hr
 | ptr i off =>
  have hi : i < ids.length := by simpa [PV.under] using hu
  obtain ⟨h1, h2⟩ := hr
  exact ⟨(R.box hi).1 h1, by rw [h2, (R.at_ i _ (at_lt hi)).2]⟩
 | own cs n i =>
  have hi : i < ids.length := by simpa [PV.under] using hu
  obtain ⟨h0, h1, m, e, h2, h3, h4⟩ := hr
  have ho := (R.at_ i _ (at_lt hi)).1
  rw [h2] at ho
  have h2' : hl i = .tok m e := by cases hh : hl i <;> rw [hh] at ho <;> simp [PO.ren] at ho; rw [ho.1, ho.2]
  exact ⟨h0, h1, m, e, h2', h3, fun e' hp => by rw [h4 e' hp, (R.at_ i _ (at_lt hi)).2]⟩
 | fnc f is =>
  have hi : ∀ i ∈ is, i < ids.length := by simpa [PV.under, List.all_eq_true] using hu
  obtain ⟨h1, h2⟩ := hr
  refine ⟨fun i him => (R.box (hi i him)).1 (h1 _ (List.mem_map.2 ⟨i, him, rfl⟩)), ?_⟩
  rw [h2, List.map_map]
  congr 2
  exact List.map_congr_left fun i him => by simp only [Function.comp]; rw [(R.at_ i _ (at_lt (hi i him))).2]
 | yld l => exact hr
 | mth => exact hr
 | cond b p ih => exact ⟨fun hb => ih (by simpa [PV.under] using hu) (hr.1 hb), hr.2⟩
 | gsl i ver sz o n full =>
  have hi : i < ids.length := by simpa [PV.under] using hu
  obtain ⟨v, e, cap, a, h1, h2, h3, h4, h5, h6, h7⟩ := hr
  rw [R.grow hi] at h1
  rw [(R.at_ i _ (at_lt hi)).2] at h7
  exact ⟨v, e, cap, a, h1, h2, h3, h4, h5, h6, h7⟩
 | gptr i ver off =>
  have hi : i < ids.length := by simpa [PV.under] using hu
  obtain ⟨v, e, sz, a, h1, h2, h3, h4⟩ := hr
  rw [R.grow hi] at h1
  rw [(R.at_ i _ (at_lt hi)).2] at h4
  exact ⟨v, e, sz, a, h1, h2, h3, h4⟩
 | mapr i =>
  have hi : i < ids.length := by simpa [PV.under] using hu
  obtain ⟨t, h1, h2⟩ := hr
  rw [R.map hi] at h1
  rw [(R.at_ i _ (at_lt hi)).2] at h2
  exact ⟨t, h1, h2⟩
 | nil => exact hr
 | cons b p q ih1 ih2 =>
  simp only [PV.under, Bool.and_eq_true] at hu
  obtain ⟨v, us, h1, h2, h3, h4⟩ := hr
  exact ⟨v, us, h1, ih1 hu.1 h2, ih2 hu.2 h3, h4⟩
 | junk => trivial
theorem Ren.up {ids : List Nat} (R : Ren ids φ h φl hl) {p : PV} {u : Value} (hr : RepP F φl hl p u) : RepP F φ h (p.ren ids) u := by
 induction p generalizing u with
 | t x => exact hr
 | ptr i off =>
  obtain ⟨h1, h2⟩ := hr
  have hi := R.lt_of_box h1
  exact ⟨(R.box hi).2 h1, by rw [h2, (R.at_ i _ (at_lt hi)).2]⟩
 | own cs n i =>
  obtain ⟨h0, h1, m, e, h2, h3, h4⟩ := hr
  have hi : i < ids.length := R.lt_of (fun e => by rw [e] at h2; cases h2)
  have ho := (R.at_ i _ (at_lt hi)).1
  rw [h2] at ho
  exact ⟨h0, h1, m, e, ho, h3, fun e' hp => by rw [h4 e' hp, (R.at_ i _ (at_lt hi)).2]⟩
 | fnc f is =>
  obtain ⟨h1, h2⟩ := hr
  refine ⟨fun j hj => ?_, ?_⟩
  ·obtain ⟨i, him, rfl⟩ := List.mem_map.1 hj
   exact (R.box (R.lt_of_box (h1 i him))).2 (h1 i him)
  ·rw [h2, List.map_map]
   congr 2
   exact List.map_congr_left fun i him => by simp only [Function.comp]; rw [(R.at_ i _ (at_lt (R.lt_of_box (h1 i him)))).2]
 | yld l => exact hr
 | mth => exact hr
 | cond b p ih => exact ⟨fun hb => ih (hr.1 hb), hr.2⟩
 | gsl i ver sz o n full =>
  obtain ⟨v, e, cap, a, h1, h2, h3, h4, h5, h6, h7⟩ := hr
  have hi : i < ids.length := R.lt_of (fun e => by rw [e] at h1; cases h1)
  rw [← R.grow hi] at h1
  rw [← (R.at_ i _ (at_lt hi)).2] at h7
  exact ⟨v, e, cap, a, h1, h2, h3, h4, h5, h6, h7⟩
 | gptr i ver off =>
  obtain ⟨v, e, sz, a, h1, h2, h3, h4⟩ := hr
  have hi : i < ids.length := R.lt_of (fun e => by rw [e] at h1; cases h1)
  rw [← R.grow hi] at h1
  rw [← (R.at_ i _ (at_lt hi)).2] at h4
  exact ⟨v, e, sz, a, h1, h2, h3, h4⟩
 | mapr i =>
  obtain ⟨t, h1, h2⟩ := hr
  have hi : i < ids.length := R.lt_of (fun e => by rw [e] at h1; cases h1)
  rw [← R.map hi] at h1
  rw [← (R.at_ i _ (at_lt hi)).2] at h2
  exact ⟨t, h1, h2⟩
 | nil => exact hr
 | cons b p q ih1 ih2 =>
  obtain ⟨v, us, h1, h2, h3, h4⟩ := hr
  exact ⟨v, us, h1, ih1 h2, ih2 h3, h4⟩
 | junk => trivial

theorem Ren.objDown {ids : List Nat} (R : Ren ids φ h φl hl) {i j : Nat} (hi : ids[i]? = some j) (hu : (hl i).under ids.length = true) (hr : RepO P F φ h w j (h j)) : RepO P F φl hl w i (hl i) := by
 obtain ⟨e1, e2⟩ := R.at_ i j hi
 rw [e1] at hr
 cases ho : hl i with
 | box cells =>
  rw [ho] at hr hu
  obtain ⟨us, ty, h1, h2, h3, h4⟩ := hr
  refine ⟨us, ty, by rw [← e2]; exact h1, by simpa using h2, fun k c u hc hku => ?_, fun k => by rw [← e2]; exact h4 k⟩
  have := h3 k (c.ren ids) u (by rw [List.getElem?_map, hc]; rfl) hku
  have hcu : c.under ids.length = true := by
   simp only [PO.under, List.all_eq_true] at hu
   exact hu c (List.mem_of_getElem? hc)
  exact ⟨R.down hcu this.1, this.2⟩
 | ro cells =>
  rw [ho] at hr
  obtain ⟨us, ty, h1, h2, h3, h4⟩ := hr
  exact ⟨us, ty, by rw [← e2]; exact h1, h2, h3, fun k u hk => by rw [← e2]; exact h4 k u hk⟩
 | grow v cells e sz =>
  rw [ho] at hr hu
  obtain ⟨us, h1, h2, h3, h4, h5, h6⟩ := hr
  refine ⟨us, by rw [← e2]; exact h1, by rw [← e2]; exact h2, by simpa using h3, h4, fun k c u hc hku => ?_, fun k => by rw [← e2]; exact h6 k⟩
  have := h5 k (c.ren ids) u (by rw [List.getElem?_map, hc]; rfl) hku
  have hcu : c.under ids.length = true := by
   simp only [PO.under, List.all_eq_true] at hu
   exact hu c (List.mem_of_getElem? hc)
  exact ⟨R.down hcu this.1, this.2⟩
 | gro v cells e sz =>
  rw [ho] at hr
  obtain ⟨us, h1, h2, h3, h4, h5⟩ := hr
  exact ⟨us, by rw [← e2]; exact h1, by rw [← e2]; exact h2, h3, h4, fun k c u hc hku => by rw [← e2]; exact h5 k c u hc hku⟩
 | mp t m =>
  rw [ho] at hr
  obtain ⟨es, clock, ents, h1, h2, h3, h4, h5⟩ := hr
  exact ⟨es, clock, ents, by rw [← e2]; exact h1, h2, h3, h4, by rw [← e2]; exact h5⟩
 | mpo t cells =>
  rw [ho] at hr hu
  obtain ⟨es, clock, kv, h1, h2, h3, h4⟩ := hr
  refine ⟨es, clock, kv, by rw [← e2]; exact h1, h2, fun k c hc => ?_, by rw [← e2]; exact h4⟩
  have := h3 k (c.ren ids) (by rw [List.getElem?_map, hc]; rfl)
  have hcu : c.under ids.length = true := by
   simp only [PO.under, List.all_eq_true] at hu
   exact hu c (List.mem_of_getElem? hc)
  exact R.down hcu this
 | mpk t ks cells =>
  rw [ho] at hr hu
  obtain ⟨es, clock, h1, h2, h3, h4, h5, h6⟩ := hr
  refine ⟨es, clock, by rw [← e2]; exact h1, h2, by rw [← h3, List.length_map], h4, fun k c x hc hx => ?_, by rw [← e2]; exact h6⟩
  have := h5 k (c.ren ids) x (by rw [List.getElem?_map, hc]; rfl) hx
  have hcu : c.under ids.length = true := by
   simp only [PO.under, List.all_eq_true] at hu
   exact hu c (List.mem_of_getElem? hc)
  exact R.down hcu this
 | mfz t vs =>
  rw [ho] at hr
  obtain ⟨⟨es, clock, h1⟩, h2⟩ := hr
  exact ⟨⟨es, clock, by rw [← e2]; exact h1⟩, by rw [← e2]; exact h2⟩
 | tok n e =>
  rw [ho] at hr
  intro h0
  obtain ⟨us, mk, h1, h2⟩ := hr h0
  exact ⟨us, mk, by rw [← e2]; exact h1, fun hm => ⟨(h2 hm).1, by rw [← e2]; exact (h2 hm).2.1, by rw [← e2]; exact (h2 hm).2.2.1, fun k hk => by rw [← e2]; exact (h2 hm).2.2.2 k hk⟩⟩
 | cnt => trivial
 | res => trivial
theorem Ren.objUp {ids : List Nat} (R : Ren ids φ h φl hl) {i j : Nat} (hi : ids[i]? = some j) (hr : RepO P F φl hl w i (hl i)) : RepO P F φ h w j (h j) := by
 obtain ⟨e1, e2⟩ := R.at_ i j hi
 rw [e1]
 cases ho : hl i with
 | box cells =>
  rw [ho] at hr
  obtain ⟨us, ty, h1, h2, h3, h4⟩ := hr
  refine ⟨us, ty, by rw [e2]; exact h1, by simpa using h2, fun k c u hc hku => ?_, fun k => by rw [e2]; exact h4 k⟩
  rw [List.getElem?_map, Option.map_eq_some_iff] at hc
  obtain ⟨c', hc', rfl⟩ := hc
  have := h3 k c' u hc' hku
  exact ⟨R.up this.1, this.2⟩
 | ro cells =>
  rw [ho] at hr
  obtain ⟨us, ty, h1, h2, h3, h4⟩ := hr
  exact ⟨us, ty, by rw [e2]; exact h1, h2, h3, fun k u hk => by rw [e2]; exact h4 k u hk⟩
 | grow v cells e sz =>
  rw [ho] at hr
  obtain ⟨us, h1, h2, h3, h4, h5, h6⟩ := hr
  refine ⟨us, by rw [e2]; exact h1, by rw [e2]; exact h2, by simpa using h3, h4, fun k c u hc hku => ?_, fun k => by rw [e2]; exact h6 k⟩
  rw [List.getElem?_map, Option.map_eq_some_iff] at hc
  obtain ⟨c', hc', rfl⟩ := hc
  have := h5 k c' u hc' hku
  exact ⟨R.up this.1, this.2⟩
 | gro v cells e sz =>
  rw [ho] at hr
  obtain ⟨us, h1, h2, h3, h4, h5⟩ := hr
  exact ⟨us, by rw [e2]; exact h1, by rw [e2]; exact h2, h3, h4, fun k c u hc hku => by rw [e2]; exact h5 k c u hc hku⟩
 | mp t m =>
  rw [ho] at hr
  obtain ⟨es, clock, ents, h1, h2, h3, h4, h5⟩ := hr
  exact ⟨es, clock, ents, by rw [e2]; exact h1, h2, h3, h4, by rw [e2]; exact h5⟩
 | mpo t cells =>
  rw [ho] at hr
  obtain ⟨es, clock, kv, h1, h2, h3, h4⟩ := hr
  refine ⟨es, clock, kv, by rw [e2]; exact h1, h2, fun k c hc => ?_, by rw [e2]; exact h4⟩
  rw [List.getElem?_map, Option.map_eq_some_iff] at hc
  obtain ⟨c', hc', rfl⟩ := hc
  exact R.up (h3 k c' hc')
 | mpk t ks cells =>
  rw [ho] at hr
  obtain ⟨es, clock, h1, h2, h3, h4, h5, h6⟩ := hr
  refine ⟨es, clock, by rw [e2]; exact h1, h2, by rw [List.length_map]; exact h3, h4, fun k c x hc hx => ?_, by rw [e2]; exact h6⟩
  rw [List.getElem?_map, Option.map_eq_some_iff] at hc
  obtain ⟨c', hc', rfl⟩ := hc
  exact R.up (h5 k c' x hc' hx)
 | mfz t vs =>
  rw [ho] at hr
  obtain ⟨⟨es, clock, h1⟩, h2⟩ := hr
  exact ⟨⟨es, clock, by rw [e2]; exact h1⟩, by rw [e2]; exact h2⟩
 | tok n e =>
  rw [ho] at hr
  intro h0
  obtain ⟨us, mk, h1, h2⟩ := hr h0
  exact ⟨us, mk, by rw [e2]; exact h1, fun hm => ⟨(h2 hm).1, by rw [e2]; exact (h2 hm).2.1, by rw [e2]; exact (h2 hm).2.2.1, fun k hk => by rw [e2]; exact (h2 hm).2.2.2 k hk⟩⟩
 | cnt => trivial
 | res => trivial

def renW (ids : List Nat) (hl' : Hp) : Wr := (List.range ids.length).map fun i => (ids.getD i 0, (hl' i).ren ids)
theorem wr_append (h : Hp) (W W' : Wr) : wr h (W ++ W') = wr (wr h W) W' := by simp [wr]
theorem wr_out : ∀ (W : Wr) (h : Hp) (j : Nat), (∀ o, (j, o) ∉ W) → wr h W j = h j
 | [], _, _, _ => rfl
 | p :: W, h, j, hj => by
  show wr (upo h p.1 p.2) W j = _
  rw [wr_out W _ j fun o ho => hj o (List.mem_cons_of_mem _ ho), upo_other]
  rintro rfl; exact hj p.2 List.mem_cons_self
theorem wr_in : ∀ (W : Wr) (h : Hp) (j : Nat) (o : PO), (W.map (·.1)).Nodup → (j, o) ∈ W → wr h W j = o
 | p :: W, h, j, o, hn, hj => by
  show wr (upo h p.1 p.2) W j = _
  simp only [List.map_cons, List.nodup_cons] at hn
  rcases List.mem_cons.1 hj with e | hj
  ·subst e
   rw [wr_out W _ _ fun o' ho' => hn.1 (List.mem_map.2 ⟨_, ho', rfl⟩), upo_same]
  ·exact wr_in W _ j o hn.2 hj
theorem renW_fst (ids : List Nat) (hl' : Hp) : (renW ids hl').map (·.1) = ids := by
 unfold renW
 rw [List.map_map]
 apply List.ext_getElem?
 intro i
 by_cases hi : i < ids.length
 ·simp [hi, List.getD_eq_getElem?_getD]
 ·simp [hi, List.getElem?_eq_none (Nat.le_of_not_lt hi)]
theorem renW_at {ids : List Nat} (hn : ids.Nodup) {i j : Nat} (hi : ids[i]? = some j) : wr h (renW ids hl') j = (hl' i).ren ids := by
 refine wr_in _ _ _ _ (by rw [renW_fst]; exact hn) (List.mem_map.2 ⟨i, List.mem_range.2 (List.getElem?_eq_some_iff.1 hi).1, ?_⟩)
 rw [getD_of hi]
theorem renW_out {ids : List Nat} {j : Nat} (hj : j ∉ ids) : wr h (renW ids hl') j = h j := by
 refine wr_out _ _ _ fun o ho => hj ?_
 rw [← renW_fst ids hl']
 exact List.mem_map.2 ⟨_, ho, rfl⟩

theorem nodup_at {ids : List Nat} (hn : ids.Nodup) {i i' j : Nat} (h1 : ids[i]? = some j) (h2 : ids[i']? = some j) : i = i' := by
 obtain ⟨l1, e1⟩ := List.getElem?_eq_some_iff.1 h1
 obtain ⟨l2, e2⟩ := List.getElem?_eq_some_iff.1 h2
 exact (List.getElem_inj hn).1 (e1.trans e2.symm)

theorem RH.sub (H : RH P C F φ h w) {ids : List Nat} (hn : ids.Nodup) (R : Ren ids φ h φl hl) (hu : ∀ (i j : Nat), ids[i]? = some j → (hl i).under ids.length = true) : RH P (loc w F φl hl) F φl hl w := by
 refine ⟨H.agree, Fz.le_refl _, fun a u h1 h2 => (by rw [show F a = none from h2] at h1; cases h1), fun i => ?_, fun i j li lj e => ?_, fun i li => .inr ⟨i, li, rfl⟩, Bel.refl _ _, HStep.refl _ _, H.glob⟩
 ·rcases Nat.lt_or_ge i ids.length with hi | hi
  ·exact R.objDown (at_lt hi) (hu i _ (at_lt hi)) (H.objs _)
  ·rw [R.out i hi]; trivial
 ·have hi := at_lt (R.lt_of_live li)
  have hj := at_lt (R.lt_of_live lj)
  have e2 := H.inj _ _ (by rw [R.live hi]; exact li) (by rw [R.live hj]; exact lj) (by rw [(R.at_ _ _ hi).2, (R.at_ _ _ hj).2]; exact e)
  rw [e2] at hi
  exact nodup_at hn hi hj

theorem RH.join (H : RH P C F φ h w) {ids : List Nat} (hn : ids.Nodup) (R : Ren ids φ h φl hl) (H' : RH P (loc w F φl hl) F' φl' hl' w') (hout : ∀ i, ids.length ≤ i → hl' i = .res) :
  ∃ φ', RH P C F' φ' (wr h (renW ids hl')) w' ∧ Ren ids φ' (wr h (renW ids hl')) φl' hl' := by
 let φ' : Nat → Nat × Nat := fun j => if j ∈ ids then φl' (ids.idxOf j) else φ j
 have hin : ∀ (i j : Nat), ids[i]? = some j → φ' j = φl' i := by
  intro i j hi
  have hm : j ∈ ids := List.mem_of_getElem? hi
  show (if j ∈ ids then φl' (ids.idxOf j) else φ j) = _
  rw [if_pos hm]
  have : ids[ids.idxOf j]? = some j := by rw [List.getElem?_eq_getElem (List.idxOf_lt_length_iff.2 hm)]; simp
  rw [nodup_at hn this hi]
 have hnot : ∀ j, j ∉ ids → φ' j = φ j := fun j hj => if_neg hj
 have R' : Ren ids φ' (wr h (renW ids hl')) φl' hl' := ⟨fun i j hi => ⟨renW_at hn hi, hin i j hi⟩, hout⟩
 have hmem : ∀ j, j ∈ ids → ∃ i, ids[i]? = some j := fun j hj => by
  obtain ⟨i, hi, e⟩ := List.getElem_of_mem hj
  exact ⟨i, by rw [List.getElem?_eq_getElem hi, e]⟩
 have hown : ∀ b, own φl hl b → own φ h b := by
  rintro b ⟨i, li, e⟩
  have hi := at_lt (R.lt_of_live li)
  exact ⟨_, by rw [R.live hi]; exact li, by rw [(R.at_ _ _ hi).2]; exact e⟩
 have hapart : ∀ j, j ∉ ids → (h j).live = true → ¬ own φl hl (φ j).1 := by
  rintro j hj lj ⟨i, li, e⟩
  have hi := at_lt (R.lt_of_live li)
  have := H.inj _ j (by rw [R.live hi]; exact li) lj (by rw [(R.at_ _ _ hi).2]; exact e)
  exact hj (this ▸ List.mem_of_getElem? hi)
 have hs : HStep φ φ' h (wr h (renW ids hl')) := by
  intro j
  by_cases hj : j ∈ ids
  ·obtain ⟨i, hi⟩ := hmem j hj
   have hst := H'.step i
   obtain ⟨a1, a2⟩ := R.at_ i j hi
   have e1 := hin i j hi
   have b1 := renW_at (h := h) (hl' := hl') hn hi
   change (match hl i with
    | .box _ => isBox hl' i ∧ φl' i = φl i
    | .ro c => hl' i = .ro c ∧ φl' i = φl i
    | .grow v _ e sz => ∃ v', growInfo (hl' i) = some (v', e, sz) ∧ v ≤ v' ∧ (v' = v → φl' i = φl i)
    | .gro v c e sz => hl' i = .gro v c e sz ∧ φl' i = φl i
    | .mp t _ => mapInfo (hl' i) = some t ∧ φl' i = φl i
    | .mpo t _ => mapInfo (hl' i) = some t ∧ φl' i = φl i
    | .mpk t _ _ => mapInfo (hl' i) = some t ∧ φl' i = φl i
    | .mfz t _ => mapInfo (hl' i) = some t ∧ φl' i = φl i
    | .tok n e => ∃ n', hl' i = .tok n' e ∧ n ≤ n' ∧ (n' = n → φl' i = φl i)
    | .cnt _ => ∃ n, hl' i = .cnt n
    | .res => True) at hst
   rw [a1]
   cases ho : hl i with
   | box c =>
    rw [ho] at hst
    obtain ⟨s1, s2⟩ := hst
    refine ⟨?_, by rw [e1, s2, a2]⟩
    unfold isBox
    rw [b1]
    rcases s1 with ⟨c', hc'⟩ | ⟨c', hc'⟩
    ·exact .inl ⟨_, by rw [hc']; rfl⟩
    ·exact .inr ⟨_, by rw [hc']; rfl⟩
   | ro c =>
    rw [ho] at hst
    exact ⟨by rw [b1, hst.1]; rfl, by rw [e1, hst.2, a2]⟩
   | grow v c e sz =>
    rw [ho] at hst
    obtain ⟨v', s1, s2, s3⟩ := hst
    exact ⟨v', (by rw [b1]; cases hh : hl' i <;> rw [hh] at s1 <;> first | (cases s1; rfl) | cases s1), s2, fun e => by rw [e1, s3 e, a2]⟩
   | gro v c e sz =>
    rw [ho] at hst
    exact ⟨by rw [b1, hst.1]; rfl, by rw [e1, hst.2, a2]⟩
   | mp t m =>
    rw [ho] at hst
    exact ⟨(by rw [b1]; have s1 := hst.1; cases hh : hl' i <;> rw [hh] at s1 <;> first | (cases s1; rfl) | cases s1), by rw [e1, hst.2, a2]⟩
   | mpo t m =>
    rw [ho] at hst
    exact ⟨(by rw [b1]; have s1 := hst.1; cases hh : hl' i <;> rw [hh] at s1 <;> first | (cases s1; rfl) | cases s1), by rw [e1, hst.2, a2]⟩
   | mpk t ks m =>
    rw [ho] at hst
    exact ⟨(by rw [b1]; have s1 := hst.1; cases hh : hl' i <;> rw [hh] at s1 <;> first | (cases s1; rfl) | cases s1), by rw [e1, hst.2, a2]⟩
   | mfz t m =>
    rw [ho] at hst
    exact ⟨(by rw [b1]; have s1 := hst.1; cases hh : hl' i <;> rw [hh] at s1 <;> first | (cases s1; rfl) | cases s1), by rw [e1, hst.2, a2]⟩
   | tok n e =>
    rw [ho] at hst
    obtain ⟨n', s1, s2, s3⟩ := hst
    exact ⟨n', by rw [b1, s1]; rfl, s2, fun e => by rw [e1, s3 e, a2]⟩
   | cnt n =>
    rw [ho] at hst
    obtain ⟨n', s1⟩ := hst
    exact ⟨n', by rw [b1, s1]; rfl⟩
   | res => trivial
  ·have e1 := hnot j hj
   have b1 := renW_out (h := h) (hl' := hl') hj
   cases ho : h j with
   | box c => exact ⟨.inl ⟨c, by rw [b1]; exact ho⟩, e1⟩
   | ro c => exact ⟨by rw [b1]; exact ho, e1⟩
   | grow v c e sz => exact ⟨v, by rw [b1, ho]; rfl, Nat.le_refl _, fun _ => e1⟩
   | gro v c e sz => exact ⟨by rw [b1]; exact ho, e1⟩
   | mp t m => exact ⟨by rw [b1, ho]; rfl, e1⟩
   | mpo t m => exact ⟨by rw [b1, ho]; rfl, e1⟩
   | mpk t ks m => exact ⟨by rw [b1, ho]; rfl, e1⟩
   | mfz t m => exact ⟨by rw [b1, ho]; rfl, e1⟩
   | tok n e => exact ⟨n, by rw [b1]; exact ho, Nat.le_refl _, fun _ => e1⟩
   | cnt n => exact ⟨n, by rw [b1]; exact ho⟩
   | res => trivial
 refine ⟨φ', H.trans ?_, R'⟩
 refine ⟨H'.agree, H'.more, fun a u h1 h2 => ?_, fun j => ?_, fun j k lj lk e => ?_, fun j lj => ?_, ⟨H'.bel.os, H'.bel.tape, H'.bel.output, H'.bel.size, fun k hk he => H'.bel.block k hk fun ho => he (hown _ ho)⟩, hs, H'.glob⟩
 ·rcases H'.news a u h1 h2 with h3 | h3
  ·exact .inl h3
  ·exact .inr (hown _ h3)
 ·by_cases hj : j ∈ ids
  ·obtain ⟨i, hi⟩ := hmem j hj
   exact R'.objUp hi (H'.objs i)
  ·rw [renW_out hj]
   refine (H.objs j).step (fun _ => hnot j hj) hs H'.more (fun lj a ha => ?_) (fun lj => H'.bel.block _ (H.blk lj) (hapart j hj lj))
   cases hFa : F a with
   | some v => exact H'.more _ _ hFa
   | none =>
    cases hFb : F' a with
    | none => rfl
    | some v =>
     rcases H'.news _ _ hFb hFa with h3 | h3
     ·have := H.blk lj; exact absurd (show w.heap.size ≤ (φ j).1 from by rw [← ha]; exact h3) (by omega)
     ·rw [ha] at h3; exact absurd h3 (hapart j hj lj)
 ·have key : ∀ (i j k : Nat), ids[i]? = some j → k ∉ ids → (wr h (renW ids hl') j).live = true → (wr h (renW ids hl') k).live = true → (φ' j).1 = (φ' k).1 → False := by
   intro i j k hi hk lj lk e
   rw [renW_out hk] at lk
   rw [hin i j hi, hnot k hk] at e
   rw [R'.live hi] at lj
   rcases H'.high i lj with h3 | h3
   ·have := H.blk lk; rw [e] at h3; exact absurd (show w.heap.size ≤ (φ k).1 from h3) (by omega)
   ·rw [e] at h3; exact hapart k hk lk h3
  by_cases hj : j ∈ ids <;> by_cases hk : k ∈ ids
  ·obtain ⟨i, hi⟩ := hmem j hj
   obtain ⟨i', hi'⟩ := hmem k hk
   rw [R'.live hi] at lj; rw [R'.live hi'] at lk
   rw [hin i j hi, hin i' k hi'] at e
   have := H'.inj i i' lj lk e
   subst this
   rw [hi] at hi'; exact Option.some.inj hi'
  ·obtain ⟨i, hi⟩ := hmem j hj
   exact (key i j k hi hk lj lk e).elim
  ·obtain ⟨i, hi⟩ := hmem k hk
   exact (key i k j hi hj lk lj e.symm).elim
  ·rw [renW_out hj] at lj; rw [renW_out hk] at lk
   rw [hnot j hj, hnot k hk] at e
   exact H.inj j k lj lk e
 ·by_cases hj : j ∈ ids
  ·obtain ⟨i, hi⟩ := hmem j hj
   rw [R'.live hi] at lj
   rw [hin i j hi]
   rcases H'.high i lj with h3 | h3
   ·exact .inl h3
   ·exact .inr (hown _ h3)
  ·rw [renW_out hj] at lj
   rw [hnot j hj]
   exact .inr ⟨j, lj, rfl⟩

theorem RH.joinG (H : RH P C F φ h w) {G : Nat → Prop} (hG : ∀ b, G b → ¬ own φ h b) {ids : List Nat} (hn : ids.Nodup) (R : Ren ids φ h φl hl) (H' : RH P (locG w F φl hl G) F' φl' hl' w') (hout : ∀ i, ids.length ≤ i → hl' i = .res) :
  ∃ φ', RH P (locG w F φ h G) F' φ' (wr h (renW ids hl')) w' ∧ Ren ids φ' (wr h (renW ids hl')) φl' hl' ∧ ∀ j, j ∉ ids → φ' j = φ j := by
 let φ' : Nat → Nat × Nat := fun j => if j ∈ ids then φl' (ids.idxOf j) else φ j
 have hin : ∀ (i j : Nat), ids[i]? = some j → φ' j = φl' i := by
  intro i j hi
  have hm : j ∈ ids := List.mem_of_getElem? hi
  show (if j ∈ ids then φl' (ids.idxOf j) else φ j) = _
  rw [if_pos hm]
  have : ids[ids.idxOf j]? = some j := by rw [List.getElem?_eq_getElem (List.idxOf_lt_length_iff.2 hm)]; simp
  rw [nodup_at hn this hi]
 have hnot : ∀ j, j ∉ ids → φ' j = φ j := fun j hj => if_neg hj
 have R' : Ren ids φ' (wr h (renW ids hl')) φl' hl' := ⟨fun i j hi => ⟨renW_at hn hi, hin i j hi⟩, hout⟩
 have hmem : ∀ j, j ∈ ids → ∃ i, ids[i]? = some j := fun j hj => by
  obtain ⟨i, hi, e⟩ := List.getElem_of_mem hj
  exact ⟨i, by rw [List.getElem?_eq_getElem hi, e]⟩
 have hown : ∀ b, (own φl hl b ∨ G b) → (own φ h b ∨ G b) := by
  rintro b (⟨i, li, e⟩ | hg)
  ·have hi := at_lt (R.lt_of_live li)
   exact .inl ⟨_, by rw [R.live hi]; exact li, by rw [(R.at_ _ _ hi).2]; exact e⟩
  ·exact .inr hg
 have hapart : ∀ j, j ∉ ids → (h j).live = true → ¬ (own φl hl (φ j).1 ∨ G (φ j).1) := by
  rintro j hj lj hh
  rcases hh with hh | hg
  case inr => exact hG _ hg ⟨j, lj, rfl⟩
  obtain ⟨i, li, e⟩ := hh
  have hi := at_lt (R.lt_of_live li)
  have := H.inj _ j (by rw [R.live hi]; exact li) lj (by rw [(R.at_ _ _ hi).2]; exact e)
  exact hj (this ▸ List.mem_of_getElem? hi)
 have hs : HStep φ φ' h (wr h (renW ids hl')) := by
  intro j
  by_cases hj : j ∈ ids
  ·obtain ⟨i, hi⟩ := hmem j hj
   have hst := H'.step i
   obtain ⟨a1, a2⟩ := R.at_ i j hi
   have e1 := hin i j hi
   have b1 := renW_at (h := h) (hl' := hl') hn hi
   change (match hl i with
    | .box _ => isBox hl' i ∧ φl' i = φl i
    | .ro c => hl' i = .ro c ∧ φl' i = φl i
    | .grow v _ e sz => ∃ v', growInfo (hl' i) = some (v', e, sz) ∧ v ≤ v' ∧ (v' = v → φl' i = φl i)
    | .gro v c e sz => hl' i = .gro v c e sz ∧ φl' i = φl i
    | .mp t _ => mapInfo (hl' i) = some t ∧ φl' i = φl i
    | .mpo t _ => mapInfo (hl' i) = some t ∧ φl' i = φl i
    | .mpk t _ _ => mapInfo (hl' i) = some t ∧ φl' i = φl i
    | .mfz t _ => mapInfo (hl' i) = some t ∧ φl' i = φl i
    | .tok n e => ∃ n', hl' i = .tok n' e ∧ n ≤ n' ∧ (n' = n → φl' i = φl i)
    | .cnt _ => ∃ n, hl' i = .cnt n
    | .res => True) at hst
   rw [a1]
   cases ho : hl i with
   | box c =>
    rw [ho] at hst
    obtain ⟨s1, s2⟩ := hst
    refine ⟨?_, by rw [e1, s2, a2]⟩
    unfold isBox
    rw [b1]
    rcases s1 with ⟨c', hc'⟩ | ⟨c', hc'⟩
    ·exact .inl ⟨_, by rw [hc']; rfl⟩
    ·exact .inr ⟨_, by rw [hc']; rfl⟩
   | ro c =>
    rw [ho] at hst
    exact ⟨by rw [b1, hst.1]; rfl, by rw [e1, hst.2, a2]⟩
   | grow v c e sz =>
    rw [ho] at hst
    obtain ⟨v', s1, s2, s3⟩ := hst
    exact ⟨v', (by rw [b1]; cases hh : hl' i <;> rw [hh] at s1 <;> first | (cases s1; rfl) | cases s1), s2, fun e => by rw [e1, s3 e, a2]⟩
   | gro v c e sz =>
    rw [ho] at hst
    exact ⟨by rw [b1, hst.1]; rfl, by rw [e1, hst.2, a2]⟩
   | mp t m =>
    rw [ho] at hst
    exact ⟨(by rw [b1]; have s1 := hst.1; cases hh : hl' i <;> rw [hh] at s1 <;> first | (cases s1; rfl) | cases s1), by rw [e1, hst.2, a2]⟩
   | mpo t m =>
    rw [ho] at hst
    exact ⟨(by rw [b1]; have s1 := hst.1; cases hh : hl' i <;> rw [hh] at s1 <;> first | (cases s1; rfl) | cases s1), by rw [e1, hst.2, a2]⟩
   | mpk t ks m =>
    rw [ho] at hst
    exact ⟨(by rw [b1]; have s1 := hst.1; cases hh : hl' i <;> rw [hh] at s1 <;> first | (cases s1; rfl) | cases s1), by rw [e1, hst.2, a2]⟩
   | mfz t m =>
    rw [ho] at hst
    exact ⟨(by rw [b1]; have s1 := hst.1; cases hh : hl' i <;> rw [hh] at s1 <;> first | (cases s1; rfl) | cases s1), by rw [e1, hst.2, a2]⟩
   | tok n e =>
    rw [ho] at hst
    obtain ⟨n', s1, s2, s3⟩ := hst
    exact ⟨n', by rw [b1, s1]; rfl, s2, fun e => by rw [e1, s3 e, a2]⟩
   | cnt n =>
    rw [ho] at hst
    obtain ⟨n', s1⟩ := hst
    exact ⟨n', by rw [b1, s1]; rfl⟩
   | res => trivial
  ·have e1 := hnot j hj
   have b1 := renW_out (h := h) (hl' := hl') hj
   cases ho : h j with
   | box c => exact ⟨.inl ⟨c, by rw [b1]; exact ho⟩, e1⟩
   | ro c => exact ⟨by rw [b1]; exact ho, e1⟩
   | grow v c e sz => exact ⟨v, by rw [b1, ho]; rfl, Nat.le_refl _, fun _ => e1⟩
   | gro v c e sz => exact ⟨by rw [b1]; exact ho, e1⟩
   | mp t m => exact ⟨by rw [b1, ho]; rfl, e1⟩
   | mpo t m => exact ⟨by rw [b1, ho]; rfl, e1⟩
   | mpk t ks m => exact ⟨by rw [b1, ho]; rfl, e1⟩
   | mfz t m => exact ⟨by rw [b1, ho]; rfl, e1⟩
   | tok n e => exact ⟨n, by rw [b1]; exact ho, Nat.le_refl _, fun _ => e1⟩
   | cnt n => exact ⟨n, by rw [b1]; exact ho⟩
   | res => trivial
 refine ⟨φ', ?_, R', hnot⟩
 refine ⟨H'.agree, H'.more, fun a u h1 h2 => ?_, fun j => ?_, fun j k lj lk e => ?_, fun j lj => ?_, ⟨H'.bel.os, H'.bel.tape, H'.bel.output, H'.bel.size, fun k hk he => H'.bel.block k hk fun ho => he (hown _ ho)⟩, hs, H'.glob⟩
 ·rcases H'.news a u h1 h2 with h3 | h3
  ·exact .inl h3
  ·exact .inr (hown _ h3)
 ·by_cases hj : j ∈ ids
  ·obtain ⟨i, hi⟩ := hmem j hj
   exact R'.objUp hi (H'.objs i)
  ·rw [renW_out hj]
   refine (H.objs j).step (fun _ => hnot j hj) hs H'.more (fun lj a ha => ?_) (fun lj => H'.bel.block _ (H.blk lj) (hapart j hj lj))
   cases hFa : F a with
   | some v => exact H'.more _ _ hFa
   | none =>
    cases hFb : F' a with
    | none => rfl
    | some v =>
     rcases H'.news _ _ hFb hFa with h3 | h3
     ·have := H.blk lj; exact absurd (show w.heap.size ≤ (φ j).1 from by rw [← ha]; exact h3) (by omega)
     ·rw [ha] at h3; exact absurd h3 (hapart j hj lj)
 ·have key : ∀ (i j k : Nat), ids[i]? = some j → k ∉ ids → (wr h (renW ids hl') j).live = true → (wr h (renW ids hl') k).live = true → (φ' j).1 = (φ' k).1 → False := by
   intro i j k hi hk lj lk e
   rw [renW_out hk] at lk
   rw [hin i j hi, hnot k hk] at e
   rw [R'.live hi] at lj
   rcases H'.high i lj with h3 | h3
   ·have := H.blk lk; rw [e] at h3; exact absurd (show w.heap.size ≤ (φ k).1 from h3) (by omega)
   ·rw [e] at h3; exact hapart k hk lk h3
  by_cases hj : j ∈ ids <;> by_cases hk : k ∈ ids
  ·obtain ⟨i, hi⟩ := hmem j hj
   obtain ⟨i', hi'⟩ := hmem k hk
   rw [R'.live hi] at lj; rw [R'.live hi'] at lk
   rw [hin i j hi, hin i' k hi'] at e
   have := H'.inj i i' lj lk e
   subst this
   rw [hi] at hi'; exact Option.some.inj hi'
  ·obtain ⟨i, hi⟩ := hmem j hj
   exact (key i j k hi hk lj lk e).elim
  ·obtain ⟨i, hi⟩ := hmem k hk
   exact (key i k j hi hj lk lj e.symm).elim
  ·rw [renW_out hj] at lj; rw [renW_out hk] at lk
   rw [hnot j hj, hnot k hk] at e
   exact H.inj j k lj lk e
 ·by_cases hj : j ∈ ids
  ·obtain ⟨i, hi⟩ := hmem j hj
   rw [R'.live hi] at lj
   rw [hin i j hi]
   rcases H'.high i lj with h3 | h3
   ·exact .inl h3
   ·exact .inr (hown _ h3)
  ·rw [renW_out hj] at lj
   rw [hnot j hj]
   exact .inr (.inl ⟨j, lj, rfl⟩)

end Go.Pm

/- Part QmK. -/
namespace Go.Pm
open Go Go.RowKit

variable {P : Program} {C : Cx} {F F' : Fz} {φ φ' φ'' : Nat → Nat × Nat} {h h' h'' : Hp} {w w' : World}

theorem RTm.at_ {ps : List PV} {us : Array Value} (hr : RTm F φ h ps us) (t : Nat) : RepP F φ h (ps.getD t .junk) (us.getD t undef) := by
 rw [List.getD_eq_getElem?_getD]
 cases hp : ps[t]? with
 | none => trivial
 | some p =>
  have ht : t < us.size := by rw [hr.1]; exact (List.getElem?_eq_some_iff.1 hp).1
  have hu : us[t]? = some us[t] := Array.getElem?_eq_getElem ht
  have e : us.getD t undef = us[t] := by simp [Array.getD, ht]
  rw [e]
  exact hr.2 t p _ hp hu

theorem constP_rep (v : Value) : RepP F φ h (constP v) v := by
 unfold constP
 split
 ·rename_i x hx; exact (ofVal_rep hx).1
 ·trivial

theorem globP_rep (hg : GlobOk F) (g : Nat) : RepP F φ h (globP g) (.pointer (some ⟨g, 0, none⟩)) := by
 unfold globP
 split
 ·rename_i cs hc; exact hg g cs hc
 ·trivial
theorem eval_rep {σ : PS} {a : Act} (hg : GlobOk F) (hr : RTm F φ σ.heap σ.tmps a.tmps) (x : Operand) : RepP F φ σ.heap (σ.eval x) (a.eval x) := by
 cases x with
 | tmp t => exact hr.at_ t
 | const v => exact constP_rep v
 | global g => exact globP_rep hg g
 | func f => exact RepT.fn f [] [] [] [] rfl (by simp) rfl (by simp)

theorem undef_rep : RepP F φ h pv_undef undef := RepT.tup [] [] rfl (by simp)

theorem RTm.put {ps : List PV} {us : Array Value} (hr : RTm F φ h ps us) (d : Nat) {v : PV} {u : Value} (hv : RepP F φ h v u) : RTm F φ h (ps.set d v) (us.setIfInBounds d u) := by
 refine ⟨by simp [hr.1], fun i p q hp hq => ?_⟩
 by_cases hi : i = d
 ·subst hi
  have hlt : i < ps.length := by have := (List.getElem?_eq_some_iff.1 hp).1; simpa using this
  rw [List.getElem?_set_self hlt] at hp; cases hp
  rw [Array.getElem?_setIfInBounds_self_of_lt (by rw [hr.1]; exact hlt)] at hq; cases hq
  exact hv
 ·rw [List.getElem?_set_ne (Ne.symm hi)] at hp
  rw [Array.getElem?_setIfInBounds_ne (Ne.symm hi)] at hq
  exact hr.2 i p q hp hq

theorem guard_sim {ops : Array Oper} {o : Oper} {σ : PS} {a : Act} {b : Bool} (hr : RTm F φ h σ.tmps a.tmps) (hg : guardO ops o σ = some b) : Region.wanted o (yielded ops a.tmps) = b := by
 unfold guardO at hg
 unfold Region.wanted
 split at hg
 ·rename_i hn; rw [hn]; cases hg; rfl
 ·rename_i j want hj
  rw [hj]
  simp only
  unfold yielded
  split at hg
  ·rename_i hd; rw [hd]; simp at hg ⊢; exact hg
  ·rename_i d hd
   rw [hd]
   simp only [Option.bind_some]
   split at hg
   ·rename_i ht
    have : a.tmps[d]? = none := by
     rw [Array.getElem?_eq_none_iff, hr.1]; exact List.getElem?_eq_none_iff.1 ht
    rw [this]; simp at hg ⊢; exact hg
   ·rename_i c ht
    have hlt : d < a.tmps.size := by rw [hr.1]; exact (List.getElem?_eq_some_iff.1 ht).1
    have hu : a.tmps[d]? = some a.tmps[d] := Array.getElem?_eq_getElem hlt
    have := RepT.bool_inv (hr.2 d _ _ ht hu)
    rw [hu, this]; simp only [Option.some.injEq] at hg
    rw [← hg]
    cases c <;> cases want <;> rfl
   ·rename_i c' c ht
    have hlt : d < a.tmps.size := by rw [hr.1]; exact (List.getElem?_eq_some_iff.1 ht).1
    have hu : a.tmps[d]? = some a.tmps[d] := Array.getElem?_eq_getElem hlt
    have hrep := hr.2 d _ _ ht hu
    simp only [Option.some.injEq] at hg
    cases c' with
    | true =>
     have := RepT.bool_inv (hrep.1 rfl)
     rw [hu, this, ← hg]
     cases c <;> cases want <;> rfl
    | false =>
     have := hrep.2 rfl
     rw [hu, this, ← hg]; rfl
   ·rename_i c' p hnb ht
    have hlt : d < a.tmps.size := by rw [hr.1]; exact (List.getElem?_eq_some_iff.1 ht).1
    have hu : a.tmps[d]? = some a.tmps[d] := Array.getElem?_eq_getElem hlt
    have hrep := hr.2 d _ _ ht hu
    cases c' with
    | true => cases hg
    | false =>
     have := hrep.2 rfl
     simp only [Option.some.injEq] at hg
     rw [hu, this, ← hg]; rfl
   ·cases hg
   ·rename_i p hnb _ hnc hnj ht
    have hlt : d < a.tmps.size := by rw [hr.1]; exact (List.getElem?_eq_some_iff.1 ht).1
    have hu : a.tmps[d]? = some a.tmps[d] := Array.getElem?_eq_getElem hlt
    have hrep := hr.2 d _ _ ht hu
    rw [hu]
    generalize a.tmps[d] = u at hrep
    have hne : ∀ c, u ≠ .bool c := by
     rintro c rfl
     cases p with
     | t x => cases hrep with | bool => exact hnb _ rfl
     | ptr => cases hrep.2
     | own cs n =>
      rcases Nat.eq_zero_or_pos n with h0 | h0
      ·cases (hrep.1 h0).2
      ·cases hrep.2.1 h0
     | fnc => cases hrep.2
     | yld => cases hrep
     | mth => obtain ⟨_, _, e, _⟩ := hrep; cases e
     | cond b q => exact hnc b q rfl
     | gsl => obtain ⟨_, _, _, _, _, _, e, _⟩ := hrep; cases e
     | gptr => obtain ⟨_, _, _, _, _, _, e, _⟩ := hrep; cases e
     | mapr => obtain ⟨_, _, e⟩ := hrep; cases e
     | nil b => cases b <;> cases hrep
     | cons b => obtain ⟨_, _, e, _⟩ := hrep; cases b <;> cases e
     | junk => exact hnj rfl
    simp at hg
    cases u <;> first | exact absurd rfl (hne _) | (simp; exact hg)

theorem normA_rep {p : PV} {u : Value} (hr : RepP F φ h p u) : RepP F φ h (normA p) u := by
 unfold normA
 split
 ·rename_i x hx; exact PV.toT_rep hx hr
 ·exact hr
theorem RPs.cons {p : PV} {u : Value} {ps : List PV} {us : List Value} (a : RepP F φ h p u) (b : RPs F φ h ps us) : RPs F φ h (p :: ps) (u :: us) := by
 refine ⟨by simp [b.1], fun i q v h1 h2 => ?_⟩
 cases i with
 | zero => simp at h1 h2; subst h1; subst h2; exact a
 | succ i => simp at h1 h2; exact b.2 i q v h1 h2
theorem RPs.append {ps qs : List PV} {us vs : List Value} (a : RPs F φ h ps us) (b : RPs F φ h qs vs) : RPs F φ h (ps ++ qs) (us ++ vs) := by
 refine ⟨by simp [a.1, b.1], fun i q v h1 h2 => ?_⟩
 by_cases hi : i < ps.length
 ·rw [List.getElem?_append_left hi] at h1
  rw [List.getElem?_append_left (by rw [a.1]; exact hi)] at h2
  exact a.2 i q v h1 h2
 ·rw [List.getElem?_append_right (Nat.le_of_not_lt hi)] at h1
  rw [List.getElem?_append_right (by rw [a.1]; exact Nat.le_of_not_lt hi), a.1] at h2
  exact b.2 _ q v h1 h2
theorem RPs.of_t {xs : List TV} {us : List Value} (hl : us.length = xs.length) (hr : ∀ (i : Nat) (c : TV) (u : Value), xs[i]? = some c → us[i]? = some u → RepT F c u) : RPs F φ h (xs.map .t) us :=
 ⟨by simpa using hl, fun i p u hp hu => by obtain ⟨x, hx, rfl⟩ := getElem?_map_t hp; exact hr i x u hx hu⟩

theorem run_target {c : Call} {ρp : Operand → PV} {ρv : Operand → Value} (hρ : ∀ x, RepP F φ h (ρp x) (ρv x)) {f : FuncId} {as : List PV} (ht : targetO P c ρp = some (f, as)) {type : TypeId} (hf : FnOk P f) :
  ∃ us : List Value, RPs F φ h as us ∧ (do let d ← resolve ρv c type; invoke d.target d.args : Sem Next).run P w = .ok (.enter f us.toArray) w := by
 obtain ⟨fn, hfn, hbody, hname⟩ := hf
 have hcall : ∀ us : Array Value, (callFunc f us).run P w = .ok (.enter f us) w := by
  intro us
  simp only [callFunc, Sem.run_bind, run_program, Result.andThen_ok, hfn, hname, hbody, Bool.false_eq_true, if_false, Sem.run_pure]
 have hargs : ∀ (l : List Operand), RPs F φ h (l.map fun a => normA (ρp a)) (l.map ρv) := by
  intro l
  induction l with
  | nil => exact ⟨rfl, fun i p u hp => by simp at hp⟩
  | cons a l ih => exact RPs.cons (normA_rep (hρ a)) ih
 have hmap : (c.args.map ρv) = (c.args.toList.map ρv).toArray := by apply Array.ext'; simp
 unfold targetO at ht
 split at ht
 ·rename_i g hg
  split at ht
  ·rename_i f' pre caps hpg
   simp only [Option.some.injEq, Prod.mk.injEq] at ht; obtain ⟨rfl, rfl⟩ := ht
   have hr := hρ g
   rw [hpg] at hr
   have hr' : RepT F (.fn f' pre caps) (ρv g) := hr
   generalize hu : ρv g = u at hr'
   cases hr' with
   | fn _ _ _ vs us hlv hrv hl hrr =>
    refine ⟨vs ++ c.args.toList.map ρv ++ us, ((RPs.of_t hlv hrv).append (hargs _)).append (RPs.of_t hl hrr), ?_⟩
    simp only [Sem.run_bind, resolve, hg, hu, Deferred.ofValue, Sem.run_pure, Result.andThen_ok, invoke, hmap]
    have e : (vs.toArray ++ (c.args.toList.map ρv).toArray) ++ us.toArray = (vs ++ c.args.toList.map ρv ++ us).toArray := by apply Array.ext'; simp
    rw [e, hcall]
  ·rename_i f' ids hpg
   simp only [Option.some.injEq, Prod.mk.injEq] at ht; obtain ⟨rfl, rfl⟩ := ht
   have hr := hρ g
   rw [hpg] at hr
   obtain ⟨hb, hu⟩ := hr
   refine ⟨c.args.toList.map ρv ++ ids.map fun id => .pointer (some ⟨(φ id).1, 0, none⟩), (hargs _).append ⟨by simp, fun i p u hp hu => ?_⟩, ?_⟩
   ·simp only [List.getElem?_map, Option.map_eq_some_iff] at hp hu
    obtain ⟨a, ha, rfl⟩ := hp
    obtain ⟨b, hb', rfl⟩ := hu
    rw [ha] at hb'; cases hb'
    exact ⟨hb a (List.mem_of_getElem? ha), rfl⟩
   ·simp only [Sem.run_bind, resolve, hg, hu, Deferred.ofValue, Sem.run_pure, Result.andThen_ok, invoke, hmap]
    have e : (#[] ++ (c.args.toList.map ρv).toArray) ++ (ids.map fun id => Value.pointer (some ⟨(φ id).1, 0, none⟩)).toArray = (c.args.toList.map ρv ++ ids.map fun id => Value.pointer (some ⟨(φ id).1, 0, none⟩)).toArray := by apply Array.ext'; simp
    rw [e, hcall]
  ·cases ht
 ·rename_i r name hg
  split at ht
  ·rename_i t x hpr
   split at ht
   ·rename_i f' hm
    simp only [Option.some.injEq, Prod.mk.injEq] at ht; obtain ⟨rfl, rfl⟩ := ht
    have hr := hρ r
    rw [hpr] at hr
    have hr' : RepT F (.ifc t x) (ρv r) := hr
    generalize hu : ρv r = u at hr'
    cases hr' with
    | ifc _ _ u hx =>
     refine ⟨u :: c.args.toList.map ρv, RPs.cons hx (hargs _), ?_⟩
     unfold methodO at hm
     split at hm
     ·cases hm
     ·rename_i i hi
      split at hm
      ·cases hm
      ·rename_i m hfind
       have hfind' : Array.find? (fun x => x.name == name) i.methods = some m := hfind
       split at hm
       ·cases hm
       ·rename_i f2 d hnp hpath hfunc hund
        simp at hm; subst hm
        have hmeth : ∀ fuel, (method (fuel + 1) t u name).run P w = .ok (f2, u) w := by
         intro fuel
         simp only [method, Sem.run_bind, typeInfo, run_program, Result.andThen_ok, hi, Sem.run_pure, hfind', hpath, follow, hfunc, receiverAt, run_underlying' hund, Place.get]
        simp only [Sem.run_bind, resolve, hg, hu, Sem.run_pure, Result.andThen_ok, invoke, hmap]
        have e1 : (#[Value.iface t u] ++ (c.args.toList.map ρv).toArray)[0]? = some (Value.iface t u) := by simp
        have e2 : (#[Value.iface t u] ++ (c.args.toList.map ρv).toArray).extract 1 (#[Value.iface t u] ++ (c.args.toList.map ρv).toArray).size = (c.args.toList.map ρv).toArray := by
         apply Array.ext'; simp only [Array.toList_extract, Array.size_append]; simp; exact List.take_of_length_le (by simp)
        simp only [e1, e2, callMethod, Sem.run_bind, run_program, Result.andThen_ok]
        have hdep : 0 < Made.depth := by decide
        obtain ⟨k, hk⟩ : ∃ k, P.types.size + Made.depth = k + 1 := ⟨P.types.size + Made.depth - 1, by omega⟩
        rw [hk, hmeth]
        simp only [Result.andThen_ok]
        have e3 : #[u] ++ (c.args.toList.map ρv).toArray = (u :: c.args.toList.map ρv).toArray := by apply Array.ext'; simp
        rw [e3, hcall]
       ·cases hm
   ·cases ht
  ·cases ht
 ·cases ht

theorem seenBy_rep {o : Oper} {b : Bool} {ρp : Operand → PV} {ρv : Operand → Value} (hb : b = true) (hρ : ∀ x, RepP F φ h (ρp x) (ρv x)) (x : Operand) : RepP F φ h (seenBy o b ρp x) (ρv x) := by
 unfold seenBy
 split
 ·exact hρ x
 ·exact strip_rep hb (hρ x)
theorem condW_true {o : Oper} {v : PV} {u : Value} (hv : RepP F φ h v u) : RepP F φ h (condW o true v) u := by
 unfold condW
 split
 ·exact hv
 ·exact ⟨fun _ => hv, fun e => (by cases e)⟩


/-! ### A state and a frame -/
def Hid (C : Cx) (φ : Nat → Nat × Nat) (h : Hp) (G : Nat → Prop) (w : World) : Prop := ∀ b, G b → b < w.heap.size ∧ ¬ own φ h b ∧ (C.w0.heap.size ≤ b ∨ C.E b)
def Marks (C : Cx) (φ : Nat → Nat × Nat) (h : Hp) (G : Nat → Prop) (ds : List Deferred) (w : World) : Prop :=
 ∃ ms, ds = ms ++ C.ds ∧ (ms.Nodup ∧ (C.nm = true → ms = [])) ∧ ∀ d ∈ ms, ∃ D, d = { target := .collected D, args := #[] } ∧ C.w0.heap.size ≤ D ∧ w.heap[D]? = some (.deferred (some [])) ∧ ¬ own φ h D ∧ ¬ G D

def R (P : Program) (C : Cx) (J : Gh) (σ : PS) (a : Act) (w : World) : Prop :=
 ∃ F φ G, RH P C F φ σ.heap w ∧ RTm F φ σ.heap σ.tmps a.tmps ∧ Hid C φ σ.heap G w ∧ Marks C φ σ.heap G a.defers w ∧ J (cntOf σ.heap) F G w

theorem surr {J : Gh} {G : Nat → Prop} {ds : List Deferred} {i : Nat} (hst : Stable C.w0.heap.size C.E J) (H : RH P C F φ h w) (hid : Hid C φ h G w) (hm : Marks C φ h G ds w) (hJ : J i F G w) (H' : RH P (loc w F φ h) F' φ' h' w') :
  Hid C φ' h' G w' ∧ Marks C φ' h' G ds w' ∧ J i F' G w' := by
 obtain ⟨ms, hms, hmn, hmd⟩ := hm
 have hown : ∀ b, own φ h b → C.w0.heap.size ≤ b ∨ C.E b := fun b ⟨id, hl, e⟩ => e ▸ H.high id hl
 have hnew : ∀ b, b < w.heap.size → ¬ own φ h b → ¬ own φ' h' b := by
  rintro b hb hn ⟨id, li, e⟩
  rcases H'.high id li with h3 | h3
  ·rw [e] at h3; exact absurd (show w.heap.size ≤ b from h3) (by omega)
  ·rw [e] at h3; exact hn h3
 have hsz : w.heap.size ≤ w'.heap.size := H'.bel.size
 refine ⟨fun b hb => ⟨Nat.lt_of_lt_of_le (hid b hb).1 hsz, hnew b (hid b hb).1 (hid b hb).2.1, (hid b hb).2.2⟩, ⟨ms, hms, hmn, fun d hd => ?_⟩, ?_⟩
 ·obtain ⟨D, e, h1, h2, h3, h4⟩ := hmd d hd
  have hlt := lt_of_block h2
  exact ⟨D, e, h1, (H'.bel.block D hlt h3).trans h2, hnew D hlt h3, h4⟩
 ·refine hst i F G w F' w' hJ H'.more H'.agree (fun a u h1 h2 => ?_) H'.bel.os H'.bel.tape H'.bel.output hsz (fun b hb hg => H'.bel.block b hb fun ho => ?_)
  ·rcases H'.news a u h1 h2 with h3 | h3
   ·have h3' : w.heap.size ≤ a.block := h3
    refine ⟨.inl (Nat.le_trans H.bel.size h3'), fun hg => ?_⟩
    have := (hid _ hg).1; omega
   ·exact ⟨hown _ h3, fun hg => (hid _ hg).2.1 h3⟩
  ·rcases hg with hg | ⟨h1, h2⟩
   ·exact (hid b hg).2.1 ho
   ·rcases hown b ho with h3 | h3
    ·omega
    ·exact h2 h3

def Fr (l : Option Nat) : Fence := { Fence.wide with round := l }

theorem uponIn_gives {l : Option Nat} {n : Nat} {o : Oper} {a : Act} {K : Act → World → Prop} {Q : Exit → Act → World → Prop} {r : Result Next} {u : Value} (hg : Gives r u w') (hk : K (a.put o.dst u) w') : o.uponIn (Fr l) n P a K Q r := by
 rcases hg with rfl | ⟨rfl, rfl⟩
 ·exact hk
 ·exact hk

theorem cntOf_wr : ∀ (W : Wr) (h : Hp), (∀ x o, (x, o) ∈ W → (∀ n, h x ≠ .cnt n) ∧ ∀ n, o ≠ .cnt n) → cntOf (wr h W) = cntOf h
 | [], _, _ => rfl
 | p :: W, h, hw => by
  obtain ⟨h1, h2⟩ := hw p.1 p.2 List.mem_cons_self
  have e1 : cntOf (upo h p.1 p.2) = cntOf h := by
   unfold cntOf
   by_cases e : (0 : Nat) = p.1
   ·rw [e, upo_same]
    cases hp : p.2 <;> cases hh : h p.1 <;> first | rfl | exact absurd hp (h2 _) | exact absurd hh (h1 _)
   ·rw [upo_other _ _ e]
  show cntOf (wr (upo h p.1 p.2) W) = _
  rw [cntOf_wr W _ fun x o hx => ?_, e1]
  obtain ⟨h3, h4⟩ := hw x o (List.mem_cons_of_mem _ hx)
  refine ⟨fun n => ?_, h4⟩
  by_cases e : x = p.1
  ·subst e; rw [upo_same]; exact h2 n
  ·rw [upo_other _ _ e]; exact h3 n

theorem valS_rep {F : Fz} {x : TV} {u v : Value} (h : RepT F x u) (hv : valS x = some v) : u = v := by
 cases h <;> simp [valS] at hv <;> exact hv
theorem valT_rep {F : Fz} {x : TV} {u v : Value} (h : RepT F x u) (hv : valT x = some v) : u = v := by
 cases h with
 | agg cs us hl h1 hr =>
  simp only [valT, Option.map_eq_some_iff] at hv
  obtain ⟨vs, hvs, rfl⟩ := hv
  obtain ⟨e1, e2⟩ := allO_some hvs
  congr 1
  have : us = vs := by
   apply List.ext_getElem?
   intro i
   by_cases hi : i < cs.length
   ·have a1 : cs[i]? = some cs[i] := List.getElem?_eq_getElem hi
    have a2 : us[i]? = some us[i] := List.getElem?_eq_getElem (by omega)
    have a3 : vs[i]? = some vs[i] := List.getElem?_eq_getElem (by omega)
    rw [a2, a3, valS_rep (hr i _ _ a1 a2) (e2 i _ _ a1 a3)]
   ·rw [List.getElem?_eq_none (by omega), List.getElem?_eq_none (by omega)]
  rw [this]
 | _ => simp only [valT, valS, Option.some.injEq, reduceCtorEq] at hv <;> exact hv
end Go.Pm

/- Part QmL. -/
namespace Go.Pm
open Go Go.RowKit

variable {P : Program} {C : Cx} {F F' : Fz} {φ φ' φ'' : Nat → Nat × Nat} {h h' h'' : Hp} {w w' : World}

def WOk (h : Hp) (W : Wr) (f : Foot) : Prop := ∀ x o, (x, o) ∈ W → x ∈ f.1 ∧ f.2 = true ∧ (∀ n, h x ≠ .cnt n) ∧ ∀ n, o ≠ .cnt n
theorem WOk.nil (f : Foot) : WOk h [] f := fun x o hx => by cases hx
theorem WOk.one {x : Nat} {o : PO} {f : Foot} (h1 : x ∈ f.1) (h2 : f.2 = true) (h3 : ∀ n, h x ≠ .cnt n) (h4 : ∀ n, o ≠ .cnt n) : WOk h [(x, o)] f := fun y p hy => by
 simp at hy; obtain ⟨rfl, rfl⟩ := hy; exact ⟨h1, h2, h3, h4⟩

theorem srcG_congr {sz : Nat} {x : PV} {g : Hp} (hg : ∀ id ver sz' o n f, x = .gsl id ver sz' o n f → g id = h id) : srcG sz x g = srcG sz x h := by
 cases x <;> first | rfl | (rename_i id ver sz' o n f; simp only [srcG, hg id ver sz' o n f rfl])
theorem fresh_loc {mu : Bool} {cs : List PV} {n sz rid : Nat} {e : TypeId} {v : PV} {W : Wr} {f : Foot} (hx : freshO mu cs n e sz rid = some (v, W)) (h1 : rid ∈ f.1) (h2 : f.2 = true) (h3 : isRes (h rid) = true) : WOk h W f := by
 unfold freshO at hx
 split at hx
 ·cases hx; exact WOk.one h1 h2 (fun n => by rw [isRes_iff.1 h3]; simp) (by simp)
 ·simp only [Option.map_eq_some_iff] at hx
  obtain ⟨xs, _, he⟩ := hx
  simp only [Prod.mk.injEq] at he
  rw [← he.2]; exact WOk.one h1 h2 (fun n => by rw [isRes_iff.1 h3]; simp) (by simp)

theorem appendS_congr {t t' : TypeId} {s x : PV} {rid : Nat} {g h : Hp} (hg : ∀ y ∈ sfoot s x rid, g y = h y) : appendS P t t' s x g rid = appendS P t t' s x h rid := by
 cases s with
 | t y =>
  have := hg rid (by simp [sfoot])
  cases y <;> simp only [appendS, this]
 | own cs n id => have := hg id (by simp [sfoot]); simp only [appendS, this]
 | _ => rfl
theorem appendS_loc {t t' : TypeId} {s x v : PV} {rid : Nat} {W : Wr} (hv : appendS P t t' s x h rid = some (v, W)) :
  WOk h W (sfoot s x rid, true) ∧ ∀ g : Hp, (∀ y ∈ sfoot s x rid, g y = h y) → appendS P t t' s x g rid = some (v, W) := by
 refine ⟨?_, fun g hg => by rw [appendS_congr hg]; exact hv⟩
 unfold appendS at hv
 split at hv
 ·split at hv
  ·split at hv
   ·cases hv
   ·split at hv
    ·split at hv
     ·rename_i hc
      cases hv
      exact WOk.one (by simp [sfoot]) rfl (fun n => by rw [isRes_iff.1 hc.2]; simp) (by simp)
     ·cases hv
    ·split at hv
     ·rename_i hc
      cases hv
      exact WOk.one (by simp [sfoot]) rfl (fun n => by rw [tokIs_eq hc.2.2.1]; simp) (by simp)
     ·cases hv
    ·cases hv
  ·cases hv
 ·cases hv

theorem append_loc {mu : Bool} {t t' : TypeId} {s x v : PV} {rid : Nat} {W : Wr} (hv : appendG P mu t t' s x h rid = some (v, W)) :
  WOk h W (sfoot s x rid, true) ∧ ∀ g : Hp, (∀ y ∈ sfoot s x rid, g y = h y) → appendG P mu t t' s x g rid = some (v, W) := by
 have hsrc : ∀ (g : Hp), (∀ y ∈ sfoot s x rid, g y = h y) → ∀ sz, srcG sz x g = srcG sz x h := fun g hg sz => srcG_congr fun id ver sz' o n f e => hg id (by subst e; simp [sfoot])
 unfold appendG at hv ⊢
 split at hv
 ·rename_i htt
  simp only [htt, if_true]
  split at hv
  ·cases hv
  ·rename_i e he
   split at hv
   ·cases hv
   ·rename_i sz by_ hsm
    split at hv
    ·cases hv
    ·rename_i ds m hs0
     split at hv
     ·split at hv
      ·rename_i hm; cases hv
       exact ⟨WOk.nil _, fun g hg => by simp [htt ▸ he, hsm, hsrc g hg, hs0, hm]⟩
      ·rename_i hm
       split at hv
       ·rename_i hc
        refine ⟨fresh_loc hv (by simp [sfoot]) rfl hc.2, fun g hg => ?_⟩
        have := hg rid (by simp [sfoot])
        simp [htt ▸ he, hsm, hsrc g hg, hs0, hm, this, hc, hv]
       ·cases hv
     ·rename_i cs n
      split at hv
      ·rename_i hlen
       split at hv
       ·rename_i hm; cases hv
        exact ⟨WOk.nil _, fun g hg => by simp [htt ▸ he, hsm, hsrc g hg, hs0, hm, hlen]⟩
       ·rename_i hm
        split at hv
        ·rename_i hc
         refine ⟨fresh_loc hv (by simp [sfoot]) rfl hc.2, fun g hg => ?_⟩
         have := hg rid (by simp [sfoot])
         simp [htt ▸ he, hsm, hsrc g hg, hs0, hm, this, hc, hlen, hv]
        ·cases hv
      ·cases hv
     ·rename_i id ver sz' o n
      split at hv
      ·rename_i cells hgc
       split at hv
       ·rename_i hlen
        split at hv
        ·rename_i hm; cases hv
         refine ⟨WOk.nil _, fun g hg => ?_⟩
         have := hg id (by simp [sfoot])
         simp [htt ▸ he, hsm, hsrc g hg, hs0, hm, hlen, this, hgc]
        ·rename_i hm
         split at hv
         ·rename_i hc
          refine ⟨fresh_loc hv (by simp [sfoot]) rfl hc.2, fun g hg => ?_⟩
          have := hg rid (by simp [sfoot])
          have h2 := hg id (by simp [sfoot])
          simp only [htt ▸ he, hsm, hsrc g hg, hs0, hm, this, h2, hgc, hc, hlen, hv, if_true, if_false, and_self]
         ·cases hv
       ·cases hv
      ·cases hv
     ·rename_i id ver sz' n
      split at hv
      ·rename_i cells hgc
       split at hv
       ·rename_i hlen
        split at hv
        ·rename_i hm; cases hv
         refine ⟨WOk.nil _, fun g hg => ?_⟩
         have := hg id (by simp [sfoot])
         simp [htt ▸ he, hsm, hsrc g hg, hs0, hm, hlen, this, hgc]
        ·rename_i hm
         split at hv
         ·rename_i hc
          cases hv
          refine ⟨WOk.one (by simp [sfoot]) rfl (fun n => by rw [growIs_eq hgc]; simp) (by simp), fun g hg => ?_⟩
          have h2 := hg id (by simp [sfoot])
          simp only [htt ▸ he, hsm, hsrc g hg, hs0, hm, h2, hgc, hc, hlen, if_true, if_false, and_self]
         ·cases hv
       ·rename_i hno
        split at hv
        ·rename_i hlen
         cases hv
         refine ⟨WOk.one (by simp [sfoot]) rfl (fun n => by rw [growIs_eq hgc]; simp) (by simp), fun g hg => ?_⟩
         have h2 := hg id (by simp [sfoot])
         simp only [htt ▸ he, hsm, hsrc g hg, hs0, h2, hgc]
         rw [if_neg hno, if_pos hlen]
        ·cases hv
      ·cases hv
     ·rename_i cs n id
      split at hv
      ·rename_i ds' hds
       split at hv
       ·rename_i hlen
        split at hv
        ·rename_i hm; cases hv
         refine ⟨WOk.nil _, fun g hg => ?_⟩
         have := hg id (by simp [sfoot])
         simp [htt ▸ he, hsm, hsrc g hg, hs0, hm, hlen, this, hds]
        ·rename_i hm
         split at hv
         ·rename_i hc; cases hv
          refine ⟨WOk.one (by simp [sfoot]) rfl (fun n => by rw [tokIs_eq hlen.2]; simp) (by simp), fun g hg => ?_⟩
          have a1 := hg id (by simp [sfoot])
          simp [htt ▸ he, hsm, hsrc g hg, hs0, hm, a1, hc, hlen, hds]
         ·cases hv
       ·cases hv
      ·cases hv
     ·cases hv
 ·rename_i htt
  simp only [htt, if_false]
  exact appendS_loc hv

theorem update_loc {t : TypeId} {m k x v : PV} {W : Wr} (hv : updateO P t m k x h = some (v, W)) :
  WOk h W (mfoot m, true) ∧ ∀ g : Hp, (∀ y ∈ mfoot m, g y = h y) → updateO P t m k x g = some (v, W) := by
 unfold updateO at hv
 split at hv
 ·rename_i id k' x' hk hx
  split at hv
  ·rename_i t' f hid
   split at hv
   ·rename_i hc
    cases hv
    refine ⟨WOk.one (by simp [mfoot]) rfl (fun n => by rw [hid]; simp) (by simp), fun g hg => ?_⟩
    have := hg id (by simp [mfoot])
    unfold updateO
    simp only [hk, hx, this, hid, hc, and_self, if_true]
   ·cases hv
  ·cases hv
 ·cases hv

def NoW (x : Option (PV × Wr)) : Prop := ∀ v W, x = some (v, W) → W = []
theorem nw_none : NoW none := fun v W h => by cases h
theorem nw_some (p : PV) : NoW (some (p, [])) := fun v W h => by simp at h; exact h.2
theorem nw_map {α : Type} (f : α → PV) (x : Option α) : NoW (x.map fun a => (f a, [])) := fun v W h => by
 cases x with
 | none => cases h
 | some a => simp at h; exact h.2
theorem nw_bind {α : Type} {x : Option α} {g : α → Option (PV × Wr)} (h : ∀ a, NoW (g a)) : NoW (x.bind g) := fun v W e => by
 cases x with
 | none => cases e
 | some a => exact h a v W e
theorem pop_loc {op : Op} {ρ : Operand → PV} {rid : Nat} {v : PV} {W : Wr} (hp : pop P op ρ h rid = some (v, W)) :
  WOk h W (footO op ρ rid) ∧ ∀ g : Hp, (∀ x ∈ (footO op ρ rid).1, g x = h x) → pop P op ρ g rid = some (v, W) := by
 have quiet : (∀ g : Hp, pop P op ρ g rid = pop P op ρ h rid) → (∀ v W, pop P op ρ h rid = some (v, W) → W = []) →
   WOk h W (footO op ρ rid) ∧ ∀ g : Hp, (∀ x ∈ (footO op ρ rid).1, g x = h x) → pop P op ρ g rid = some (v, W) := by
  intro hq hw
  have := hw v W hp; subst this
  exact ⟨WOk.nil _, fun g _ => by rw [hq g, hp]⟩
 cases op with
 | alloc e =>
  simp only [pop] at hp
  cases hz : zeroL P e with
  | none => rw [hz] at hp; simp at hp
  | some z =>
   rw [hz] at hp; simp only [Option.bind_some] at hp
   split at hp
   ·rename_i hres
    simp at hp; obtain ⟨rfl, rfl⟩ := hp
    refine ⟨WOk.one (by simp [footO]) rfl (fun n => by rw [isRes_iff.1 hres]; simp) (by simp), fun g hg => ?_⟩
    have := hg rid (by simp [footO])
    simp [pop, hz, this, hres]
   ·cases hp
 | box e x =>
  simp only [pop] at hp
  cases hz : pcells (ρ x) with
  | none => rw [hz] at hp; simp at hp
  | some z =>
   rw [hz] at hp; simp only [Option.bind_some] at hp
   split at hp
   ·rename_i hres
    simp at hp; obtain ⟨rfl, rfl⟩ := hp
    refine ⟨WOk.one (by simp [footO]) rfl (fun n => by rw [isRes_iff.1 hres]; simp) (by simp), fun g hg => ?_⟩
    have := hg rid (by simp [footO])
    simp [pop, hz, this, hres]
   ·cases hp
 | makeSlice t l c =>
  simp only [pop] at hp
  split at hp
  ·rename_i kl l' kc c' hl hc
   split at hp
   ·rename_i e he
    split at hp
    ·rename_i sz by_ z hsm hz
     split at hp
     ·rename_i hcond
      simp only [Option.some.injEq, Prod.mk.injEq] at hp; obtain ⟨rfl, rfl⟩ := hp
      refine ⟨WOk.one (by simp [footO]) rfl (fun n => by rw [isRes_iff.1 hcond.2.2.2.1]; simp) (by simp), fun g hg => ?_⟩
      have := hg rid (by simp [footO])
      simp only [pop, hl, hc, he, hsm, hz, this]
      rw [if_pos hcond]
     ·cases hp
    ·cases hp
   ·cases hp
  ·cases hp
 | makeMap t r =>
  cases r with
  | some r => simp [pop] at hp
  | none =>
   simp only [pop] at hp
   split at hp
   ·rename_i km hm
    split at hp
    ·rename_i hres
     simp only [Option.some.injEq, Prod.mk.injEq] at hp; obtain ⟨rfl, rfl⟩ := hp
     refine ⟨WOk.one (by simp [footO]) rfl (fun n => by rw [isRes_iff.1 hres]; simp) (by simp), fun g hg => ?_⟩
     have := hg rid (by simp [footO])
     simp only [pop, hm, this]
     rw [if_pos hres]
    ·cases hp
   ·cases hp
 | mapUpdate t m k x => exact update_loc hp
 | insert t m k x => exact update_loc hp
 | lookup t m k ok =>
  have hw : W = [] := by
   simp only [pop] at hp
   split at hp
   ·split at hp
    ·split at hp
     ·simp only [Option.some.injEq, Prod.mk.injEq] at hp; exact hp.2.symm
     ·cases hp
    ·cases hp
   ·split at hp
    ·split at hp
     ·simp only [Option.some.injEq, Prod.mk.injEq] at hp; exact hp.2.symm
     ·cases hp
    ·cases hp
   ·cases hp
  subst hw
  refine ⟨WOk.nil _, fun g hg => ?_⟩
  rw [← hp]
  cases hm : ρ m with
  | mapr id =>
   have := hg id (by simp [footO, hm, mfoot])
   simp only [pop, hm]
   generalize (ρ k).toT = a
   generalize mapO P t = b
   cases a <;> cases b <;> first | rfl | simp only [this]
  | t x =>
   simp only [pop, hm]
   generalize (ρ k).toT = a
   generalize mapO P t = b
   cases x <;> cases a <;> cases b <;> rfl
  | _ => simp only [pop, hm]
 | load t a =>
  simp only [pop] at hp ⊢
  cases ha : ρ a with
  | gptr id ver off =>
   rw [ha] at hp
   have hf : (footO (.load t a) ρ rid) = ([id], false) := by simp [footO, ha]
   rw [hf]
   refine ⟨?_, fun g hg => ?_⟩
   ·simp only [Option.bind_eq_some_iff, Option.map_eq_some_iff] at hp; obtain ⟨_, _, y, _, he⟩ := hp; simp at he; rw [he.2]; exact WOk.nil _
   ·have := hg id (by simp)
    simp only [this]; exact hp
  | ptr id off =>
   rw [ha] at hp
   have hf : (footO (.load t a) ρ rid) = ([id], false) := by simp [footO, ha]
   rw [hf]
   refine ⟨?_, fun g hg => ?_⟩
   ·simp only at hp
    split at hp
    ·simp only [Option.map_eq_some_iff] at hp; obtain ⟨y, _, he⟩ := hp; simp at he; rw [he.2]; exact WOk.nil _
    ·simp only [Option.map_eq_some_iff] at hp; obtain ⟨y, _, he⟩ := hp; simp at he; rw [he.2]; exact WOk.nil _
    ·cases hp
   ·have := hg id (by simp)
    simp only [this]; exact hp
  | t x =>
   rw [ha] at hp
   have hf : (footO (.load t a) ρ rid) = ([], false) := by simp [footO, ha]
   rw [hf]
   refine ⟨?_, fun g hg => by cases x <;> exact hp⟩
   cases x <;> simp only [Option.map_eq_some_iff, reduceCtorEq] at hp
   obtain ⟨y, _, he⟩ := hp; simp at he; rw [he.2]; exact WOk.nil _
  | _ => rw [ha] at hp; cases hp
 | store t a x =>
  simp only [pop] at hp
  cases ha : ρ a with
  | gptr id ver off =>
   rw [ha] at hp
   cases hb : h id with
   | grow v' cells e sz =>
    simp only [hb] at hp
    split at hp
    ·rename_i hv
     simp only [Option.map_eq_some_iff] at hp
     obtain ⟨y, hy, he⟩ := hp
     simp at he; obtain ⟨rfl, rfl⟩ := he
     refine ⟨WOk.one (by simp [footO, ha]) (by simp [footO, ha]) (fun n => by rw [hb]; simp) (by simp), fun g hg => ?_⟩
     have := hg id (by simp [footO, ha])
     simp [pop, ha, this, hb, hy, hv]
    ·cases hp
   | _ => simp [hb] at hp
  | ptr id off =>
   rw [ha] at hp
   cases hb : h id with
   | box cells =>
    simp only [hb, Option.map_eq_some_iff] at hp
    obtain ⟨y, hy, he⟩ := hp
    simp at he; obtain ⟨rfl, rfl⟩ := he
    refine ⟨WOk.one (by simp [footO, ha]) (by simp [footO, ha]) (fun n => by rw [hb]; simp) (by simp), fun g hg => ?_⟩
    have := hg id (by simp [footO, ha])
    simp [pop, ha, this, hb, hy]
   | _ => simp [hb] at hp
  | _ => rw [ha] at hp; cases hp
 | call c =>
  obtain ⟨callee, args, ts⟩ := c
  cases callee with
  | builtin b =>
   by_cases hb : b = .append
   ·subst hb
    simp only [pop, popB] at hp
    split at hp
    ·rename_i heq _ _; cases heq
    ·rename_i heq; cases heq
    ·rename_i heq; cases heq
    ·rename_i t t' s x _ hts hargs
     obtain ⟨e2, e3⟩ := append_loc hp
     have hf : (footO (.call { callee := .builtin .append, args := args, argTypes := ts }) ρ rid) = (sfoot s x rid, true) := by
      simp only [footO, hargs]
     rw [hf]
     refine ⟨e2, fun g hg => ?_⟩
     simp only [pop, popB, hts, hargs]
     exact e3 g hg
    ·cases hp
   ·refine quiet (fun g => ?_) (fun v W hh => ?_)
    ·simp only [pop, popB]
     split
     ·rfl
     ·rfl
     ·rfl
     ·exact absurd rfl hb
     ·rfl
    ·revert v W hh
     show NoW _
     simp only [pop, popB]
     split
     ·repeat' (first | exact nw_none | exact nw_some _ | exact nw_map _ _ | (refine nw_bind fun _ => ?_) | split)
     ·repeat' (first | exact nw_none | exact nw_some _ | exact nw_map _ _ | (refine nw_bind fun _ => ?_) | split)
     ·repeat' (first | exact nw_none | exact nw_some _ | exact nw_map _ _ | (refine nw_bind fun _ => ?_) | split)
     ·exact absurd rfl hb
     ·exact nw_none
  | value g => simp [pop] at hp
  | invoke r n => simp [pop] at hp
 | move x => exact quiet (fun g => rfl) (by show NoW _; simp only [pop]; (repeat' (first | exact nw_none | exact nw_some _ | exact nw_map _ _ | (refine nw_bind fun _ => ?_) | split)))
 | assign x => exact quiet (fun g => rfl) (by show NoW _; simp only [pop]; (repeat' (first | exact nw_none | exact nw_some _ | exact nw_map _ _ | (refine nw_bind fun _ => ?_) | split)))
 | pick c a b => exact quiet (fun g => rfl) (by show NoW _; simp only [pop]; (repeat' (first | exact nw_none | exact nw_some _ | exact nw_map _ _ | (refine nw_bind fun _ => ?_) | split)))
 | build t ps => exact quiet (fun g => rfl) (by show NoW _; simp only [pop]; (repeat' (first | exact nw_none | exact nw_some _ | exact nw_map _ _ | (refine nw_bind fun _ => ?_) | split)))
 | buildSlice t n ps => exact quiet (fun g => rfl) (by show NoW _; simp only [pop]; (repeat' (first | exact nw_none | exact nw_some _ | exact nw_map _ _ | (refine nw_bind fun _ => ?_) | split)))
 | nilCheck x => exact quiet (fun g => rfl) (by show NoW _; simp only [pop]; (repeat' (first | exact nw_none | exact nw_some _ | exact nw_map _ _ | (refine nw_bind fun _ => ?_) | split)))
 | binOp op xt x y yt => exact quiet (fun g => rfl) (by show NoW _; simp only [pop, isNilO, ptrNil]; (repeat' (first | exact nw_none | exact nw_some _ | exact nw_map _ _ | (refine nw_bind fun _ => ?_) | split)))
 | unOp op xt x => exact quiet (fun g => rfl) (by show NoW _; simp only [pop]; (repeat' (first | exact nw_none | exact nw_some _ | exact nw_map _ _ | (refine nw_bind fun _ => ?_) | split)))
 | convert src dst x =>
  simp only [pop] at hp ⊢
  cases hx : ρ x with
  | gsl id ver sz o n full =>
   rw [hx] at hp
   have hf : (footO (.convert src dst x) ρ rid) = ([id], true) := by simp [footO, hx]
   rw [hf]
   refine ⟨?_, fun g hg => ?_⟩
   ·have : NoW (textO P src dst (srcG 1 (.gsl id ver sz o n full) h)) := by
     unfold textO; (repeat' (first | exact nw_none | exact nw_some _ | exact nw_map _ _ | (refine nw_bind fun _ => ?_) | split))
    rw [this _ _ hp]; exact WOk.nil _
   ·have := hg id (by simp)
    simp only [srcG, this]; exact hp
  | t y =>
   rw [hx] at hp
   refine ⟨?_, fun g hg => by cases y <;> exact hp⟩
   have : W = [] := by
    revert hp
    cases y <;> simp only [textO] <;> intro hp <;> (repeat' (split at hp)) <;> simp_all
    all_goals (try (obtain ⟨_, _, _, rfl⟩ := hp; rfl))
   rw [this]; exact WOk.nil _
  | _ =>
   rw [hx] at hp
   refine ⟨?_, fun g hg => by exact hp⟩
   have : ∀ q, NoW (textO P src dst q) := by
    intro q; unfold textO; (repeat' (first | exact nw_none | exact nw_some _ | exact nw_map _ _ | (refine nw_bind fun _ => ?_) | split))
   rw [this _ _ _ hp]; exact WOk.nil _
 | typeAssert x t a ok =>
  cases ok with
  | true => exact quiet (fun g => rfl) (by show NoW _; simp only [pop, assertO]; (repeat' (first | exact nw_none | exact nw_some _ | exact nw_map _ _ | (refine nw_bind fun _ => ?_) | split)))
  | false => simp [pop] at hp
 | makeInterface t x => exact quiet (fun g => rfl) (by show NoW _; simp only [pop]; (repeat' (first | exact nw_none | exact nw_some _ | exact nw_map _ _ | (refine nw_bind fun _ => ?_) | split)))
 | fieldAddr s x f => exact quiet (fun g => rfl) (by show NoW _; simp only [pop]; (repeat' (first | exact nw_none | exact nw_some _ | exact nw_map _ _ | (refine nw_bind fun _ => ?_) | split)))
 | field s x f => exact quiet (fun g => rfl) (by show NoW _; simp only [pop]; (repeat' (first | exact nw_none | exact nw_some _ | exact nw_map _ _ | (refine nw_bind fun _ => ?_) | split)))
 | indexAddr t x i => exact quiet (fun g => rfl) (by show NoW _; simp only [pop]; (repeat' (first | exact nw_none | exact nw_some _ | exact nw_map _ _ | (refine nw_bind fun _ => ?_) | split)))
 | index t x i => exact quiet (fun g => rfl) (by show NoW _; simp only [pop]; (repeat' (first | exact nw_none | exact nw_some _ | exact nw_map _ _ | (refine nw_bind fun _ => ?_) | split)))
 | slice t x lo hi mx => exact quiet (fun g => rfl) (by show NoW _; simp only [pop]; (repeat' (first | exact nw_none | exact nw_some _ | exact nw_map _ _ | (refine nw_bind fun _ => ?_) | split)))
 | extract x i => exact quiet (fun g => rfl) (by show NoW _; simp only [pop]; (repeat' (first | exact nw_none | exact nw_some _ | exact nw_map _ _ | (refine nw_bind fun _ => ?_) | split)))
 | makeFunc fn fi caps =>
  refine quiet (fun g => by cases fn <;> rfl) ?_
  show NoW _
  cases fn <;> simp only [pop] <;> (repeat' (first | exact nw_none | exact nw_some _ | exact nw_map _ _ | (refine nw_bind fun _ => ?_) | split))
 | _ => simp [pop] at hp

theorem allO_congr {α β : Type} {f g : α → Option β} {l : List α} (h : ∀ x ∈ l, f x = g x) : allO (l.map f) = allO (l.map g) := by rw [List.map_congr_left h]

theorem popF_loc {op : Op} {ρ : Operand → PV} {v : PV} {W : Wr} {ids : List Nat} (hp : popF op ρ h = some (v, W, ids)) :
  WOk h W (ids, true) ∧ ∀ g : Hp, (∀ x ∈ ids, g x = h x) → popF op ρ g = some (v, W, ids) := by
 cases op with
 | makeFunc fn first caps =>
  cases fn with
  | func f =>
   simp only [popF] at hp ⊢
   split at hp
   ·cases hp
   rename_i hf
   split at hp
   ·rename_i is his
    simp only [Option.map_eq_some_iff] at hp
    obtain ⟨cs, hcs, he⟩ := hp
    simp at he; obtain ⟨rfl, rfl, rfl⟩ := he
    refine ⟨fun x o hx => ?_, fun g hg => ?_⟩
    ·obtain ⟨p, hp, e⟩ := List.mem_map.1 hx
     simp at e; obtain ⟨rfl, rfl⟩ := e
     obtain ⟨h1, h2⟩ := List.of_mem_zip hp
     refine ⟨h1, rfl, fun n hn => ?_, by simp⟩
     obtain ⟨i, hi, e⟩ := List.getElem_of_mem h1
     obtain ⟨b, _, hb⟩ := allO_at hcs (List.getElem?_eq_getElem hi)
     rw [e] at hb; unfold frozenO at hb; rw [hn] at hb; cases hb
    ·have : allO (is.map (frozenO g)) = allO (is.map (frozenO h)) := allO_congr fun x hx => by unfold frozenO; rw [hg x hx]
     simp [hf, his, this, hcs]
   ·cases hp
  | _ => simp [popF] at hp
 | _ => simp [popF] at hp

theorem pop_congr {op : Op} {ρ ρ' : Operand → PV} {h : Hp} {rid : Nat} (hρ : ∀ x ∈ op.operands, ρ x = ρ' x) : pop P op ρ h rid = pop P op ρ' h rid := by
 cases op with
 | build t ps =>
  have h1 : ∀ p ∈ ps.toList, ρ p.2 = ρ' p.2 := fun p hp => hρ p.2 (by simp only [Op.operands]; exact List.mem_toArray.2 (List.mem_map.2 ⟨p, hp, rfl⟩))
  have h2 : partsO ρ ps = partsO ρ' ps := by
   unfold partsO; exact allO_congr fun p hp => by rw [h1 p hp]
  have h3 : partsP ρ ps = partsP ρ' ps := by
   unfold partsP; exact List.map_congr_left fun p hp => by rw [h1 p hp]
  simp only [pop, h2, h3]
 | buildSlice t n ps =>
  have : partsO ρ ps = partsO ρ' ps := by
   unfold partsO; exact allO_congr fun p hp => by rw [hρ p.2 (by simp only [Op.operands]; exact List.mem_toArray.2 (List.mem_map.2 ⟨p, hp, rfl⟩))]
  simp only [pop, this]
 | typeAssert x t a ok => cases ok <;> simp only [pop, hρ x (by simp [Op.operands])]
 | makeFunc fn fi caps =>
  have hc : ∀ c ∈ caps.toList, ρ c = ρ' c := fun c hc => hρ c (by simp [Op.operands]; exact .inr (by simpa using hc))
  have hf : ∀ c ∈ fi.toList, ρ c = ρ' c := fun c hc => hρ c (by simp [Op.operands]; exact .inl (by simpa using hc))
  have e := allO_congr (f := fun c => capId (ρ c)) (g := fun c => capId (ρ' c)) (fun c h => by rw [hc c h])
  have e2 := allO_congr (f := fun c => (ρ c).toT) (g := fun c => (ρ' c).toT) (fun c h => by rw [hf c h])
  cases fn with
  | method name =>
   simp only [pop]
   cases hfi : fi.toList with
   | nil => rfl
   | cons a l => simp only [hf a (by rw [hfi]; exact List.mem_cons_self)]
  | _ => simp only [pop, e, e2]
 | slice t x lo hi mx =>
  have e : ∀ b : Option Operand, (∀ y, b = some y → ρ y = ρ' y) → b.map ρ = b.map ρ' := fun b hb => by cases b with | none => rfl | some y => simp [hb y rfl]
  have e0 := hρ x (by simp [Op.operands])
  have e1 := e lo fun y hy => hρ y (by subst hy; simp [Op.operands])
  have e2 := e hi fun y hy => hρ y (by subst hy; simp [Op.operands])
  have e3 := e mx fun y hy => hρ y (by subst hy; simp [Op.operands])
  simp only [pop, e0, e1, e2, e3]
 | makeMap t r => cases r <;> rfl
 | call c =>
  obtain ⟨callee, args, ts⟩ := c
  cases callee with
  | builtin b =>
   have e : args.toList.map ρ = args.toList.map ρ' := List.map_congr_left fun x hx => hρ x (by simp [Op.operands, Call.operands]; simpa using hx)
   simp only [pop, e]
  | value g => rfl
  | invoke r n => rfl
 | _ => simp only [Op.operands, List.mem_toArray, List.mem_cons, List.not_mem_nil, or_false, forall_eq_or_imp, forall_eq] at hρ <;> first | rfl | simp only [pop, hρ]
theorem popF_congr {op : Op} {ρ ρ' : Operand → PV} {h : Hp} (hρ : ∀ x ∈ op.operands, ρ x = ρ' x) : popF op ρ h = popF op ρ' h := by
 cases op with
 | makeFunc fn fi caps =>
  have hc : ∀ c ∈ caps.toList, ρ c = ρ' c := fun c hc => hρ c (by simp [Op.operands]; exact .inr (by simpa using hc))
  have e := allO_congr (f := fun c => capId (ρ c)) (g := fun c => capId (ρ' c)) (fun c h => by rw [hc c h])
  cases fn <;> simp only [popF, e]
 | _ => rfl
theorem popM_congr {op : Op} {ρ ρ' : Operand → PV} {h : Hp} {rid : Nat} (hρ : ∀ x ∈ op.operands, ρ x = ρ' x) : popM P op ρ h rid = popM P op ρ' h rid := by
 cases op with
 | buildSlice t n ps =>
  have h1 : ∀ p ∈ ps.toList, ρ p.2 = ρ' p.2 := fun p hp => hρ p.2 (by simp only [Op.operands]; exact List.mem_toArray.2 (List.mem_map.2 ⟨p, hp, rfl⟩))
  have h2 : partsO ρ ps = partsO ρ' ps := by
   unfold partsO; exact allO_congr fun p hp => by rw [h1 p hp]
  have h3 : partsP ρ ps = partsP ρ' ps := by
   unfold partsP; exact List.map_congr_left fun p hp => by rw [h1 p hp]
  simp only [popM, h2, h3]
 | makeMap t r => cases r <;> rfl
 | lookup t m k ok => cases ok <;> simp only [popM, hρ m (by simp [Op.operands]), hρ k (by simp [Op.operands])]
 | mapUpdate t m k x => simp only [popM, hρ m (by simp [Op.operands]), hρ k (by simp [Op.operands]), hρ x (by simp [Op.operands])]
 | call c =>
  obtain ⟨callee, args, ts⟩ := c
  cases callee with
  | builtin b =>
   have e : args.toList.map ρ = args.toList.map ρ' := List.map_congr_left fun x hx => hρ x (by simp [Op.operands, Call.operands]; simpa using hx)
   cases b <;> simp only [popM, e]
  | value g => rfl
  | invoke r n => rfl
 | convert src dst x => simp only [popM, hρ x (by simp [Op.operands])]
 | _ => rfl
theorem popM_loc {op : Op} {ρ : Operand → PV} {rid : Nat} {v : PV} {W : Wr} (hp : popM P op ρ h rid = some (v, W)) :
  WOk h W (footO op ρ rid) ∧ ∀ g : Hp, (∀ x ∈ (footO op ρ rid).1, g x = h x) → popM P op ρ g rid = some (v, W) := by
 unfold popM at hp
 split at hp
 ·rename_i t n parts
  simp only [Option.bind_eq_some_iff] at hp
  obtain ⟨cs, hcs, hp⟩ := hp
  split at hp
  ·rename_i e he
   split at hp
   ·rename_i sz by_ hsm
    split at hp
    ·rename_i hres
     simp only [Option.some.injEq, Prod.mk.injEq] at hp; obtain ⟨rfl, rfl⟩ := hp
     refine ⟨WOk.one (by simp [footO]) rfl (fun n => by rw [isRes_iff.1 hres]; simp) (by simp), fun g hg => ?_⟩
     have := hg rid (by simp [footO])
     simp [popM, hcs, he, hsm, this, hres]
    ·cases hp
   ·cases hp
  ·cases hp
 ·rename_i t
  split at hp
  ·rename_i hc
   simp only [Option.some.injEq, Prod.mk.injEq] at hp; obtain ⟨rfl, rfl⟩ := hp
   refine ⟨WOk.one (by simp [footO]) rfl (fun n => by rw [isRes_iff.1 hc.2]; simp) (by simp), fun g hg => ?_⟩
   have := hg rid (by simp [footO])
   simp only [popM, this]
   rw [if_pos hc]
  ·rename_i hn
   split at hp
   ·rename_i hc
    simp only [Option.some.injEq, Prod.mk.injEq] at hp; obtain ⟨rfl, rfl⟩ := hp
    refine ⟨WOk.one (by simp [footO]) rfl (fun n => by rw [isRes_iff.1 hc.2]; simp) (by simp), fun g hg => ?_⟩
    have := hg rid (by simp [footO])
    simp only [popM, this]
    rw [if_neg hn, if_pos hc]
   ·cases hp
 ·rename_i t m k
  split at hp
  ·rename_i id i hm hk
   have hw : W = [] := by
    unfold lookM at hp
    split at hp
    ·split at hp
     ·simp only [Option.map_eq_some_iff, Prod.mk.injEq] at hp; obtain ⟨_, _, _, rfl⟩ := hp; rfl
     ·cases hp
    ·cases hp
   subst hw
   refine ⟨WOk.nil _, fun g hg => ?_⟩
   have := hg id (by simp [footO, hm, mfoot])
   simp only [popM, hm, hk, this]; exact hp
  ·rename_i id xs hm hk
   have hw : W = [] := by
    unfold lookK at hp
    split at hp
    ·split at hp
     ·simp only [Option.some.injEq, Prod.mk.injEq] at hp; exact hp.2.symm
     ·cases hp
    ·cases hp
   subst hw
   refine ⟨WOk.nil _, fun g hg => ?_⟩
   have := hg id (by simp [footO, hm, mfoot])
   simp only [popM, hm, hk, this]; exact hp
  ·rename_i t' vs i hm hk
   split at hp
   ·rename_i hc
    simp only [Option.map_eq_some_iff, Prod.mk.injEq] at hp
    obtain ⟨x, hx, rfl, rfl⟩ := hp
    refine ⟨WOk.nil _, fun g hg => ?_⟩
    simp only [popM, hm, hk]
    rw [if_pos hc, hx]; rfl
   ·cases hp
  ·cases hp
 ·rename_i t m k x
  split at hp
  ·rename_i id i hm hk
   have hcnt : ∀ n, h id ≠ .cnt n := fun n e => by rw [e] at hp; cases hp
   have hW : ∃ o, W = [(id, o)] ∧ ∀ n, o ≠ .cnt n := by
    unfold updM at hp
    split at hp
    ·split at hp
     ·simp only [Option.some.injEq, Prod.mk.injEq] at hp; exact ⟨_, hp.2.symm, by simp⟩
     ·cases hp
    ·cases hp
   obtain ⟨o, rfl, ho⟩ := hW
   refine ⟨WOk.one (by simp [footO, hm, mfoot]) rfl hcnt ho, fun g hg => ?_⟩
   have := hg id (by simp [footO, hm, mfoot])
   simp only [popM, hm, hk, this]; exact hp
  ·rename_i id xs hm hk
   have hcnt : ∀ n, h id ≠ .cnt n := fun n e => by rw [e] at hp; cases hp
   have hW : ∃ o, W = [(id, o)] ∧ ∀ n, o ≠ .cnt n := by
    unfold updK at hp
    split at hp
    ·split at hp
     ·simp only [Option.some.injEq, Prod.mk.injEq] at hp; exact ⟨_, hp.2.symm, by simp⟩
     ·cases hp
    ·cases hp
   obtain ⟨o, rfl, ho⟩ := hW
   refine ⟨WOk.one (by simp [footO, hm, mfoot]) rfl hcnt ho, fun g hg => ?_⟩
   have := hg id (by simp [footO, hm, mfoot])
   simp only [popM, hm, hk, this]; exact hp
  ·cases hp
 ·rename_i args ts
  split at hp
  ·rename_i t t' s x hts hargs
   obtain ⟨e2, e3⟩ := append_loc hp
   have hf : (footO (.call { callee := .builtin .append, args := args, argTypes := ts }) ρ rid) = (sfoot s x rid, true) := by
    simp only [footO, hargs]
   rw [hf]
   refine ⟨e2, fun g hg => ?_⟩
   simp only [popM, hts, hargs]
   exact e3 g hg
  ·cases hp
 ·rename_i src dst x
  split at hp
  ·rename_i s hpx
   split at hp
   ·rename_i e hs hd
    split at hp
    ·rename_i by_ hsm
     split at hp
     ·rename_i hc
      simp only [Option.some.injEq, Prod.mk.injEq] at hp; obtain ⟨rfl, rfl⟩ := hp
      refine ⟨WOk.one (by simp [footO, hpx]) (by simp [footO, hpx]) (fun n => by rw [isRes_iff.1 hc.2.2]; simp) (by simp), fun g hg => ?_⟩
      have := hg rid (by simp [footO, hpx])
      simp only [popM, hpx, hs, hd, hsm, this]
      rw [if_pos hc]
     ·cases hp
    ·cases hp
   ·cases hp
  ·cases hp
 ·rename_i t
  split at hp
  ·rename_i zs sz by_ hz hsm
   split at hp
   ·rename_i hres
    simp only [Option.some.injEq, Prod.mk.injEq] at hp; obtain ⟨rfl, rfl⟩ := hp
    refine ⟨WOk.one (by simp [footO]) rfl (fun n => by rw [isRes_iff.1 hres]; simp) (by simp), fun g hg => ?_⟩
    have := hg rid (by simp [footO])
    simp only [popM, hz, hsm, this]
    rw [if_pos hres]
   ·cases hp
  ·cases hp
 ·cases hp
theorem popQ_loc {op : Op} {ρ : Operand → PV} {rid : Nat} {v : PV} {W : Wr} (hp : pop P op ρ h rid = some (v, W)) :
  WOk h W (footQ op ρ rid) ∧ ∀ g : Hp, (∀ x ∈ (footQ op ρ rid).1, g x = h x) → pop P op ρ g rid = some (v, W) := by
 cases op with
 | buildSlice t n ps =>
  have hw : NoW (pop P (.buildSlice t n ps) ρ h rid) := by
   simp only [pop]; (repeat' (first | exact nw_none | exact nw_some _ | exact nw_map _ _ | (refine nw_bind fun _ => ?_) | split))
  have := hw v W hp
  subst this
  exact ⟨fun x o hx => (by cases hx), fun g _ => hp⟩
 | convert src dst x =>
  simp only [pop] at hp ⊢
  cases hx : ρ x with
  | gsl id ver sz o n full =>
   rw [hx] at hp
   have hf : (footQ (.convert src dst x) ρ rid) = ([id], true) := by simp [footQ, hx]
   rw [hf]
   refine ⟨?_, fun g hg => ?_⟩
   ·have : NoW (textO P src dst (srcG 1 (.gsl id ver sz o n full) h)) := by
     unfold textO; (repeat' (first | exact nw_none | exact nw_some _ | exact nw_map _ _ | (refine nw_bind fun _ => ?_) | split))
    rw [this _ _ hp]; exact WOk.nil _
   ·have := hg id (by simp)
    simp only [srcG, this]; exact hp
  | t y =>
   rw [hx] at hp
   refine ⟨?_, fun g hg => by cases y <;> exact hp⟩
   have : W = [] := by
    revert hp
    cases y <;> simp only [textO] <;> intro hp <;> (repeat' (split at hp)) <;> simp_all
    all_goals (try (obtain ⟨_, _, _, rfl⟩ := hp; rfl))
   rw [this]; exact WOk.nil _
  | _ =>
   rw [hx] at hp
   refine ⟨?_, fun g hg => by exact hp⟩
   have : ∀ q, NoW (textO P src dst q) := by
    intro q; unfold textO; (repeat' (first | exact nw_none | exact nw_some _ | exact nw_map _ _ | (refine nw_bind fun _ => ?_) | split))
   rw [this _ _ _ hp]; exact WOk.nil _
 | _ => exact pop_loc hp
theorem footO_congr {op : Op} {ρ ρ' : Operand → PV} {rid : Nat} (hρ : ∀ x ∈ op.operands, ρ x = ρ' x) : footO op ρ rid = footO op ρ' rid := by
 cases op with
 | call c =>
  obtain ⟨callee, args, ts⟩ := c
  cases callee with
  | builtin b =>
   have e : args.toList.map ρ = args.toList.map ρ' := List.map_congr_left fun x hx => hρ x (by simp [Op.operands, Call.operands]; simpa using hx)
   cases b <;> first | rfl | simp only [footO, e]
  | value g => rfl
  | invoke r n => rfl
 | load t a => simp only [footO, hρ a (by simp [Op.operands])]
 | store t a x => simp only [footO, hρ a (by simp [Op.operands])]
 | mapUpdate t m k x => simp only [footO, hρ m (by simp [Op.operands])]
 | insert t m k x => simp only [footO, hρ m (by simp [Op.operands])]
 | lookup t m k ok => simp only [footO, hρ m (by simp [Op.operands])]
 | convert src dst x => simp only [footO, hρ x (by simp [Op.operands])]
 | _ => rfl

theorem footQ_congr {op : Op} {ρ ρ' : Operand → PV} {rid : Nat} (hρ : ∀ x ∈ op.operands, ρ x = ρ' x) : footQ op ρ rid = footQ op ρ' rid := by
 cases op with
 | buildSlice t n ps => rfl
 | convert src dst x => simp only [footQ, hρ x (by simp [Op.operands])]
 | _ => exact footO_congr (rid := rid) hρ

theorem target_congr {c : Call} {ρ ρ' : Operand → PV} (hρ : ∀ x ∈ c.operands, ρ x = ρ' x) : targetO P c ρ = targetO P c ρ' := by
 have e : (c.args.toList.map fun a => normA (ρ a)) = c.args.toList.map fun a => normA (ρ' a) := List.map_congr_left fun x hx => by rw [hρ x (by simp [Call.operands]; exact .inr (by simpa using hx))]
 unfold targetO
 rw [e]
 cases hc : c.callee with
 | value g => simp only [hρ g (by simp [Call.operands, hc])]
 | invoke r n => simp only [hρ r (by simp [Call.operands, hc])]
 | builtin b => rfl

theorem opval0_loc {Y : YS} {op : Op} {ρ : Operand → PV} {h : Hp} {rid : Nat} {v : PV} {W : Wr} {f : Foot} (hv : OpVal0 P Y op ρ h rid v W f) :
  (∀ x o, (x, o) ∈ W → x ∈ f.1 ∧ f.2 = true) ∧
   ∀ (ρ' : Operand → PV) (g : Hp), (∀ x ∈ op.operands, ρ' x = ρ x) → (∀ x ∈ f.1, g x = h x) → OpVal0 P Y op ρ' g rid v W f := by
 rcases hv with (⟨hp, hf⟩ | ⟨hp, hf⟩) | ⟨ids, hp, hf⟩ | ⟨c, hop, hc | hy | hz⟩
 ·obtain ⟨w1, w2⟩ := popQ_loc hp
  subst hf
  refine ⟨fun x o hx => ⟨(w1 x o hx).1, (w1 x o hx).2.1⟩, fun ρ' g hρ hg => .inl (.inl ⟨?_, (footQ_congr hρ).symm⟩)⟩
  rw [pop_congr hρ]; exact w2 g hg
 ·obtain ⟨w1, w2⟩ := popM_loc hp
  subst hf
  refine ⟨fun x o hx => ⟨(w1 x o hx).1, (w1 x o hx).2.1⟩, fun ρ' g hρ hg => .inl (.inr ⟨?_, (footO_congr hρ).symm⟩)⟩
  rw [popM_congr hρ]; exact w2 g hg
 ·obtain ⟨w1, w2⟩ := popF_loc hp
  subst hf
  refine ⟨fun x o hx => ⟨(w1 x o hx).1, (w1 x o hx).2.1⟩, fun ρ' g hρ hg => .inr (.inl ⟨ids, ?_, rfl⟩)⟩
  rw [popF_congr hρ]; exact w2 g hg
 ·subst hop
  obtain ⟨fn, as, as', hl, hl', v', ids, c1, c2, c3, c4, c5, c6, c7, c8, c9, c10, c11, c12⟩ := hc
  subst c12
  refine ⟨fun x o hx => ⟨?_, rfl⟩, fun ρ' g hρ hg => .inr (.inr ⟨c, rfl, .inl ⟨fn, as, as', hl, hl', v', ids, ?_, c2, c3, c4, c5, fun i j hi => ?_, c7, c8, c9, c10, c11, rfl⟩⟩)⟩
  ·rw [c11] at hx
   have := renW_fst ids hl'
   rw [← this]
   exact List.mem_map.2 ⟨_, hx, rfl⟩
  ·rw [target_congr hρ]; exact c1
  ·rw [hg j (List.mem_of_getElem? hi)]; exact c6 i j hi
 ·subst hop
  obtain ⟨g, as, k, y1, y2, y3, y4, y5, y6, y7, y8, y9⟩ := hy
  subst y9
  refine ⟨fun x o hx => ?_, fun ρ' g' hρ hg => .inr (.inr ⟨c, rfl, .inr (.inl ⟨g, as, k, y1, ?_, ?_, ?_, y5, y6, y7, y8, rfl⟩)⟩)⟩
  ·rw [y8] at hx; simp at hx; exact ⟨by simp [hx.1], rfl⟩
  ·rw [hρ g (by simp [Op.operands, Call.operands, y1])]; exact y2
  ·rw [← y3]; exact allO_congr fun x hx => by rw [hρ x (by simp [Op.operands, Call.operands]; exact .inr (by simpa using hx))]
  ·rw [hg 0 (by simp)]; exact y4
 ·subst hop
  obtain ⟨fn, as, as', hl, hl', v', ids, c1, c2, c3, c4, c5, c6, c7, c8, c10, c11, c12⟩ := hz
  subst c12
  refine ⟨fun x o hx => ⟨?_, rfl⟩, fun ρ' g hρ hg => .inr (.inr ⟨c, rfl, .inr (.inr ⟨fn, as, as', hl, hl', v', ids, ?_, c2, c3, c4, c5, fun i j hi => ?_, c7, c8, c10, c11, rfl⟩)⟩)⟩
  ·rw [c11] at hx
   have := renW_fst ids hl'
   rw [← this]
   exact List.mem_map.2 ⟨_, hx, rfl⟩
  ·rw [target_congr hρ]; exact c1
  ·rw [hg j (List.mem_of_getElem? hi)]; exact c6 i j hi

/-! ### Freezing -/
theorem thawC_congr {g h : Hp} : ∀ {p : PV}, (∀ id ∈ idsG p, g id = h id) → thawC g p = thawC h p := by
 intro p hp
 cases p <;> first | rfl | (rename_i id ver sz o n full; simp only [thawC, hp id (by simp [idsG])]) | (rename_i id; simp only [thawC, hp id (by simp [idsG])])
theorem thawA_congr {g h : Hp} : ∀ {p : PV}, (∀ id ∈ idsG p, g id = h id) → thawA g p = thawA h p := by
 intro p
 induction p with
 | cons b p q ih1 ih2 =>
  intro hp
  simp only [thawA, thawC_congr (p := p) fun id hi => hp id (by simp [idsG, hi]), ih2 fun id hi => hp id (by simp [idsG, hi])]
 | _ => intro _; rfl
theorem thawP_congr {g h : Hp} {p : PV} (hp : ∀ id ∈ idsG p, g id = h id) : thawP g p = thawP h p := by
 cases p with
 | cons b p q => simp only [thawP, thawA_congr hp]
 | _ => simp only [thawP, thawC_congr hp]
def cellsIn : PO → List PV
 | .grow _ cells _ _ => cells
 | .mpo _ cells => cells
 | _ => []
theorem freezeO_congr {g h : Hp} {id : Nat} (h1 : g id = h id) (h2 : ∀ c ∈ cellsIn (h id), ∀ j ∈ idsG c, g j = h j) : freezeO g id = freezeO h id := by
 unfold freezeO
 rw [h1]
 cases hh : h id with
 | grow v cells e sz =>
  rw [hh] at h2
  simp only
  rw [allO_congr (l := cells) fun c hc => thawC_congr (h2 c hc)]
 | mpo t cells =>
  rw [hh] at h2
  simp only
  rw [allO_congr (l := cells) fun c hc => thawC_congr (h2 c hc)]
 | _ => rfl
theorem freezeO_kind {h : Hp} {id : Nat} {o : PO} (hf : freezeO h id = some o) : (cellsIn o = [] ∧ ∀ n, o ≠ .cnt n) ∧ (∀ n, h id ≠ .cnt n) ∧ (h id).live = true := by
 unfold freezeO at hf
 split at hf
 ·rename_i hid
  simp only [Option.map_eq_some_iff] at hf
  obtain ⟨cs, _, rfl⟩ := hf
  exact ⟨⟨rfl, by simp⟩, fun n => by rw [hid]; simp, by rw [hid]; rfl⟩
 ·rename_i hid; cases hf; exact ⟨⟨rfl, by simp⟩, fun n => by rw [hid]; simp, by rw [hid]; rfl⟩
 ·rename_i hid
  simp only [Option.map_eq_some_iff] at hf
  obtain ⟨cs, _, rfl⟩ := hf
  exact ⟨⟨rfl, by simp⟩, fun n => by rw [hid]; simp, by rw [hid]; rfl⟩
 ·rename_i hid; cases hf; exact ⟨⟨rfl, by simp⟩, fun n => by rw [hid]; simp, by rw [hid]; rfl⟩
 ·rename_i hid; cases hf; exact ⟨⟨rfl, by simp⟩, fun n => by rw [hid]; simp, by rw [hid]; rfl⟩
 ·cases hf
theorem closedG_in {h : Hp} {ids : List Nat} (hcl : closedG h ids = true) : ∀ id ∈ ids, ∀ c ∈ cellsIn (h id), ∀ j ∈ idsG c, j ∈ ids := by
 intro i hid c hcc j hj
 unfold closedG at hcl
 rw [List.all_eq_true] at hcl
 have := hcl i hid
 cases hh : h i with
 | grow v cells e sz =>
  rw [hh] at this hcc
  simp only [List.all_eq_true, List.mem_flatMap, List.contains_eq_mem, decide_eq_true_eq] at this
  exact this j ⟨c, hcc, hj⟩
 | mpo t cells =>
  rw [hh] at this hcc
  simp only [List.all_eq_true, List.mem_flatMap, List.contains_eq_mem, decide_eq_true_eq] at this
  exact this j ⟨c, hcc, hj⟩
 | _ => rw [hh] at hcc; simp [cellsIn] at hcc
theorem freezeW_loc (ids : List Nat) : ∀ (l : List Nat) {g h : Hp} {W : Wr}, (∀ x ∈ l, x ∈ ids) → (∀ x ∈ ids, g x = h x) → (∀ id ∈ ids, ∀ c ∈ cellsIn (h id), ∀ j ∈ idsG c, j ∈ ids) → freezeW h l = some W →
  freezeW g l = some W ∧ (∀ x o, (x, o) ∈ W → x ∈ l ∧ ∀ n, o ≠ .cnt n)
 | [], g, h, W, _, _, _, hw => by simp [freezeW] at hw; subst hw; exact ⟨rfl, fun x o hx => by cases hx⟩
 | id :: l, g, h, W, hl, hg, hc, hw => by
  simp only [freezeW] at hw ⊢
  have hid := hl id List.mem_cons_self
  rw [freezeO_congr (hg id hid) fun c hcc j hj => hg j (hc id hid c hcc j hj)]
  split at hw
  ·rename_i o ho
   simp only [Option.map_eq_some_iff] at hw
   obtain ⟨W', hw', rfl⟩ := hw
   obtain ⟨⟨k1, k2⟩, _⟩ := freezeO_kind ho
   obtain ⟨e1, e2⟩ := freezeW_loc ids l (g := upo g id o) (h := upo h id o) (fun x hx => hl x (List.mem_cons_of_mem _ hx)) (fun x hx => by
    by_cases e' : x = id
    ·subst e'; rw [upo_same, upo_same]
    ·rw [upo_other _ _ e', upo_other _ _ e']; exact hg x hx) (fun i hi c hcc => by
    unfold upo at hcc
    split at hcc
    ·rw [k1] at hcc; cases hcc
    ·exact hc i hi c hcc) hw'
   simp only [e1, Option.map_some]
   exact ⟨trivial, fun x o hx => by
    rcases List.mem_cons.1 hx with e | hx
    ·cases e; exact ⟨List.mem_cons_self, k2⟩
    ·exact ⟨List.mem_cons_of_mem _ (e2 x o hx).1, (e2 x o hx).2⟩⟩
  ·cases hw
theorem freezeW_nocnt : ∀ (l : List Nat) {h : Hp} {W : Wr}, freezeW h l = some W → ∀ x ∈ l, ∀ n, h x ≠ .cnt n
 | [], _, _, _, x, hx => by cases hx
 | id :: l, h, W, hw, x, hx => by
  simp only [freezeW] at hw
  split at hw
  ·rename_i o ho
   simp only [Option.map_eq_some_iff] at hw
   obtain ⟨W', hw', rfl⟩ := hw
   obtain ⟨_, h1, _⟩ := freezeO_kind ho
   rcases List.mem_cons.1 hx with rfl | hx
   ·exact h1
   ·intro n hn
    by_cases e : x = id
    ·subst e; exact h1 n hn
    ·exact freezeW_nocnt l hw' x hx n (by rw [upo_other _ _ e]; exact hn)
  ·cases hw
theorem wr_congr0 (W : Wr) : ∀ (l l' : Hp) (x : Nat), l x = l' x → wr l W x = wr l' W x := by
 induction W with
 | nil => intro l l' x h; exact h
 | cons p W ih =>
  intro l l' x h
  refine ih _ _ x ?_
  show upo l p.1 p.2 x = upo l' p.1 p.2 x
  by_cases hx : x = p.1
  ·subst hx; rw [upo_same, upo_same]
  ·rw [upo_other _ _ hx, upo_other _ _ hx]; exact h

theorem opval_loc {Y : YS} {op : Op} {ρ : Operand → PV} {h : Hp} {rid : Nat} {v : PV} {W : Wr} {f : Foot} (hv : OpVal P Y op ρ h rid v W f) :
  (∀ x o, (x, o) ∈ W → x ∈ f.1 ∧ f.2 = true) ∧
   ∀ (ρ' : Operand → PV) (g : Hp), (∀ x ∈ op.operands, ρ' x = ρ x) → (∀ x ∈ f.1, g x = h x) → OpVal P Y op ρ' g rid v W f := by
 rcases hv with hv | ⟨ids, Wf, W0, f0, hcl, hw, hv, rfl, rfl⟩
 ·obtain ⟨h1, h2⟩ := opval0_loc hv
  exact ⟨h1, fun ρ' g a b => .inl (h2 ρ' g a b)⟩
 ·obtain ⟨h1, h2⟩ := opval0_loc hv
  have hc := closedG_in hcl
  refine ⟨fun x o hx => ?_, fun ρ' g a b => .inr ⟨ids, Wf, W0, f0, ?_, ?_, h2 _ _ (fun x hx => ?_) (fun x hx => wr_congr0 Wf _ _ x (b x (List.mem_append_right _ hx))), rfl, rfl⟩⟩
  ·rcases List.mem_append.1 hx with hx | hx
   ·exact ⟨List.mem_append_left _ ((freezeW_loc ids ids (fun _ h => h) (fun _ _ => rfl) hc hw).2 x o hx).1, rfl⟩
   ·exact ⟨List.mem_append_right _ (h1 x o hx).1, rfl⟩
  ·unfold closedG at hcl ⊢
   rw [List.all_eq_true] at hcl ⊢
   intro id hid
   rw [b id (List.mem_append_left _ hid)]; exact hcl id hid
  ·exact (freezeW_loc ids ids (fun _ h => h) (fun x hx => b x (List.mem_append_left _ hx)) hc hw).1
  ·unfold seenF
   rw [a x hx]
   split
   ·rename_i hall
    rw [List.all_eq_true] at hall
    exact thawP_congr fun id hi => wr_congr0 Wf _ _ id (b id (List.mem_append_left _ (by simpa using hall id hi)))
   ·rfl

end Go.Pm

/- Part QmM. -/
namespace Go.Pm
open Go Go.RowKit

variable {P : Program} {C : Cx} {F F' : Fz} {φ φ' φ'' : Nat → Nat × Nat} {h h' h'' : Hp} {w w' : World} {J : Gh} {Y : YS}

theorem R_put {σ : PS} {a : Act} {dst : Option Tmp} {v : PV} {u : Value} {hh : Hp} {G : Nat → Prop} (H : RH P C F' φ' hh w') (hr : RTm F' φ' hh σ.tmps a.tmps) (hid : Hid C φ' hh G w') (hm : Marks C φ' hh G a.defers w') (hJ : J (cntOf hh) F' G w')
  (hv : RepP F' φ' hh v u) : R P C J (σ.put dst v hh) (a.put dst u) w' := by
 refine ⟨F', φ', G, H, ?_, hid, ?_, hJ⟩
 ·cases dst with
  | none => exact hr
  | some d => exact hr.put d hv
 ·cases dst with
  | none => exact hm
  | some d => exact hm

theorem not_defer {P : Program} {op : Op} {ρ : Operand → PV} {rid : Nat} {r : PV × Wr} (hp : pop P op ρ h rid = some r) : ∀ c, op ≠ .defer c := by
 rintro c rfl; simp [pop] at hp

theorem roundIn_any {l : Option Nat} {n m : Nat} {L : Nat} {f : FuncId} {tmps : Array Value} {assign body : Code} {Q : Ending → World → Prop} (h : RoundIn Fence.wide n P L f tmps assign body w Q) : RoundIn (Fr l) m P L f tmps assign body w Q :=
 ⟨trivial, fun c cs _ => h.2 c cs (room_wide _)⟩
theorem callsIn_any {l : Option Nat} {n : Nat} {f : FuncId} {args : Array Value} {Q : Ending → World → Prop} (h : Calls P f args w Q) : CallsIn (Fr l) n P f args w Q := callsIn_wide.2 h

theorem not_deferM {P : Program} {op : Op} {ρ : Operand → PV} {rid : Nat} {r : PV × Wr} (hp : popM P op ρ h rid = some r) : ∀ c, op ≠ .defer c := by
 rintro c rfl; simp [popM] at hp

theorem Stable.sub {B B' : Nat} {E E' : Nat → Prop} {J : Gh} (hst : Stable B E J) (h1 : ∀ b, (B' ≤ b ∨ E' b) → (B ≤ b ∨ E b)) : Stable B' E' J := by
 intro i F G w F' w' hJ hF hag hnew hos htape hout hsz hblk
 refine hst i F G w F' w' hJ hF hag (fun a u e1 e2 => ⟨h1 _ (hnew a u e1 e2).1, (hnew a u e1 e2).2⟩) hos htape hout hsz (fun b hb hg => hblk b hb (hg.imp id fun ⟨q1, q2⟩ => ?_))
 refine ⟨Nat.lt_of_not_le fun hle => ?_, fun he => ?_⟩
 ·rcases h1 b (.inl hle) with h2 | h2
  ·omega
  ·exact q2 h2
 ·rcases h1 b (.inr he) with h2 | h2
  ·omega
  ·exact q2 h2
theorem RH.locG (H : RH P (loc w F φ h) F φ h w) (G : Nat → Prop) : RH P (Pm.locG w F φ h G) F φ h w :=
 ⟨H.agree, Fz.le_refl _, fun a u h1 h2 => (by rw [show F a = none from h2] at h1; cases h1), H.objs, H.inj, fun i li => .inr (.inl ⟨i, li, rfl⟩), Bel.refl _ _, HStep.refl _ _, H.glob⟩
theorem RH.transE (H : RH P C F φ h w) {E : Nat → Prop} (hE : ∀ b, E b → C.w0.heap.size ≤ b ∨ C.E b) {ds : List Deferred} {nm : Bool} (H' : RH P ⟨w, F, h, φ, E, ds, nm⟩ F' φ' h' w') : RH P C F' φ' h' w' := by
 have hsz := H.bel.size
 refine ⟨H'.agree, Fz.le_trans H.more H'.more, fun a u h1 h2 => ?_, H'.objs, H'.inj, fun i li => ?_, ⟨H'.bel.os.trans H.bel.os, H'.bel.tape.trans H.bel.tape, H'.bel.output.trans H.bel.output, Nat.le_trans hsz H'.bel.size, fun k hk he => ?_⟩, H.step.trans H'.step, H'.glob⟩
 ·cases hFa : F a with
  | some v => exact H.news a v hFa h2
  | none =>
   rcases H'.news a u h1 hFa with h3 | h3
   ·exact .inl (Nat.le_trans hsz h3)
   ·exact hE _ h3
 ·rcases H'.high i li with h3 | h3
  ·exact .inl (Nat.le_trans hsz h3)
  ·exact hE _ h3
 ·rw [H'.bel.block k (Nat.lt_of_lt_of_le hk hsz) (fun ho => by
   rcases hE k ho with h3 | h3
   ·omega
   ·exact he h3)]
  exact H.bel.block k hk he

theorem op_sim {l : Option Nat} {n : Nat} (hY : YOk P J Y) (hst : Stable C.w0.heap.size C.E J) {o : Oper} {σ : PS} {ρ : Operand → PV} {rid : Nat} {v : PV} {W : Wr} {f : Foot} {a : Act} {K : Act → World → Prop} {Q : Exit → Act → World → Prop}
  {F : Fz} {φ : Nat → Nat × Nat} {G : Nat → Prop} (H : RH P C F φ σ.heap w) (hr : RTm F φ σ.heap σ.tmps a.tmps) (hid : Hid C φ σ.heap G w) (hm : Marks C φ σ.heap G a.defers w) (hJ : J (cntOf σ.heap) F G w)
  (hρ : ∀ x, RepP F φ σ.heap (ρ x) (a.eval x)) (hv : OpVal0 P Y o.op ρ σ.heap rid v W f) (hK : ∀ a' w', R P C J (σ.put o.dst (condW o true v) (wr σ.heap W)) a' w' → K a' w') : o.wpIn (Fr l) n P a w K Q := by
 have hgoal : o.uponIn (Fr l) n P a K Q ((o.semAt (Fr l).round a.eval).run P w) → o.wpIn (Fr l) n P a w K Q := fun h => ⟨fun _ _ => trivial, h⟩
 refine hgoal ?_
 obtain ⟨ms, hms, hmn, hmd⟩ := id hm
 have hvv : True → OpVal0 P Y o.op ρ σ.heap rid v W f := fun _ => hv
 clear hgoal
 have fin : ∀ (hnd : ∀ c, o.op ≠ .defer c) (hsim : Sim P (loc w F φ σ.heap) σ.heap ((execOp a.eval o).run P w) v W) (hcnt : cntOf (wr σ.heap W) = cntOf σ.heap),
   o.uponIn (Fr l) n P a K Q ((o.semAt (Fr l).round a.eval).run P w) := by
  intro hnd hsim hcnt
  rw [Oper.semAt_plain (Fr l) a.eval o hnd]
  obtain ⟨F', φ', u, w', g1, g2, g3⟩ := hsim
  obtain ⟨s1, s2, s3⟩ := surr hst H hid hm hJ g2
  exact uponIn_gives g1 (hK _ _ (R_put (H.trans g2) (hr.step g2.more g2.step) s1 s2 (by rw [hcnt]; exact s3) (condW_true g3)))
 rcases hvv trivial with (⟨hp, hf⟩ | ⟨hp, hf⟩) | ⟨ids, hp, hf⟩ | ⟨c, hop, hc | hy | hz⟩
 ·exact fin (not_defer hp) (pop_sim H.here hρ hp) (cntOf_wr W _ fun x o hx => ((pop_loc hp).1 x o hx).2.2)
 ·exact fin (not_deferM hp) (popM_sim H.here hρ hp) (cntOf_wr W _ fun x o hx => ((popM_loc hp).1 x o hx).2.2)
 ·exact fin (by rintro c hc; rw [hc] at hp; simp [popF] at hp) (popF_sim H.here hρ hp) (cntOf_wr W _ fun x o hx => ((popF_loc hp).1 x o hx).2.2)
 ·obtain ⟨fn, as, as', hl, hl', v', ids, c1, c2, c3, c4, c5, c6, c7, c8, c8', c9, c10, c11⟩ := hc
  have hnd : ∀ c, o.op ≠ .defer c := by intro c' h'; rw [hop] at h'; cases h'
  rw [Oper.semAt_plain (Fr l) a.eval o hnd]
  obtain ⟨us, hus, hrun⟩ := run_target (P := P) (w := w) (type := o.type) hρ c1 c2.1
  have he : execOp a.eval o = (do let d ← resolve a.eval c o.type; invoke d.target d.args : Sem Next) := by
   simp only [execOp, hop]
  rw [he, hrun]
  refine ⟨fun e => (by cases e), callsIn_any ?_⟩
  let φl : Nat → Nat × Nat := fun i => φ (ids.getD i 0)
  have hRen : Ren ids φ σ.heap φl hl := ⟨fun i j hi => ⟨(c6 i j hi).1, by show φ j = φ (ids.getD i 0); rw [getD_of hi]⟩, fun i hi => (c7 i hi).1⟩
  have hus' : RPs F φl hl as' us := by
   subst c3
   refine ⟨by simpa using hus.1, fun i p u hp hu => hRen.down ?_ (hus.2 i (p.ren ids) u (by rw [List.getElem?_map, hp]; rfl) hu)⟩
   exact (List.all_eq_true.1 c5) p (List.mem_of_getElem? hp)
  refine (c2.2 w F φl us (H.sub c4 hRen fun i j hi => (c6 i j hi).2) hus').mono fun e w' hpost => ?_
  obtain ⟨u, F', φl', rfl, H', hv'⟩ := hpost
  obtain ⟨φ', H2, hRen'⟩ := H.here.join c4 hRen H' (fun i hi => (c7 i hi).2)
  have hW : W = renW ids hl' := c10
  obtain ⟨s1, s2, s3⟩ := surr hst H hid hm hJ H2
  have hcnt : cntOf (wr σ.heap (renW ids hl')) = cntOf σ.heap := by
   unfold cntOf
   by_cases h0 : 0 ∈ ids
   ·obtain ⟨i, hi, e⟩ := List.getElem_of_mem h0
    have hi' : ids[i]? = some 0 := by rw [List.getElem?_eq_getElem hi, e]
    rw [renW_at c4 hi', (c6 i 0 hi').1]
    have a1 := c8 i 0 hi'
    have a2 := c8' i 0 hi'
    cases e1 : hl i <;> cases e2 : hl' i <;> first | rfl | exact absurd e1 (a1 _) | exact absurd e2 (a2 _)
   ·rw [renW_out h0]
  subst hW
  refine hK _ _ (R_put (H.trans H2) (hr.step H2.more H2.step) s1 s2 (by rw [hcnt]; exact s3) (condW_true ?_))
  rw [c9]; exact hRen'.up hv'
 ·obtain ⟨g, as, k, y1, y2, y3, y4, y5, y6, y7, y8, y9⟩ := hy
  have hnd : ∀ c, o.op ≠ .defer c := by intro c' h'; rw [hop] at h'; cases h'
  rw [Oper.semAt_plain (Fr l) a.eval o hnd]
  have he : execOp a.eval o = (do let d ← resolve a.eval c o.type; invoke d.target d.args : Sem Next) := by
   simp only [execOp, hop]
  have hg2 := hρ g
  rw [y2] at hg2
  have hg3 : a.eval g = .func (.yield Y.l) #[] #[] := hg2
  have hus : RepL F as (c.args.toList.map a.eval) := by
   obtain ⟨h1, h2⟩ := allO_some y3
   refine ⟨by simp [h1], fun i x u hxi hui => ?_⟩
   simp only [List.getElem?_map, Option.map_eq_some_iff] at hui
   obtain ⟨b, hb, rfl⟩ := hui
   exact PV.toT_rep (h2 i b x hb hxi) (hρ b)
  have hcnt : cntOf σ.heap = k := by unfold cntOf; rw [y4]
  rw [hcnt] at hJ
  obtain ⟨fn, tmps, assign, body, hy1, hy2⟩ := hY n F G w _ k as y5 y6 hJ H.agree (fun b hb => (hid b hb).1) hus
  have hmap : (c.args.map a.eval) = (c.args.toList.map a.eval).toArray := by apply Array.ext'; simp
  have hrun : (do let d ← resolve a.eval c o.type; invoke d.target d.args : Sem Next).run P w = .ok (.round Y.l fn tmps assign body) w := by
   simp only [Sem.run_bind, resolve, y1, hg3, Deferred.ofValue, Sem.run_pure, Result.andThen_ok, invoke, hmap]
   have e : #[] ++ (c.args.toList.map a.eval).toArray = (c.args.toList.map a.eval).toArray := by simp
   rw [e]; exact hy1
  rw [he, hrun]
  refine ⟨fun e => (by cases e), roundIn_any (hy2.mono fun e w' hpost => ?_)⟩
  obtain ⟨F', G', rfl, p1, p2, p3, p4, p5, p6, p7⟩ := hpost
  subst y8
  have hlive : ∀ j, (wr σ.heap [(0, .cnt (k + 1))] j).live = true → wr σ.heap [(0, .cnt (k + 1))] j = σ.heap j ∧ (σ.heap j).live = true := by
   intro j lj
   by_cases e : j = 0
   ·subst e; rw [show wr σ.heap [(0, .cnt (k + 1))] 0 = .cnt (k + 1) from upo_same σ.heap 0 _] at lj; cases lj
   ·have : wr σ.heap [(0, .cnt (k + 1))] j = σ.heap j := upo_other _ _ e
    rw [this] at lj ⊢; exact ⟨rfl, lj⟩
  have hap : ∀ j, (σ.heap j).live = true → ¬ G (φ j).1 := fun j lj hg => (hid _ hg).2.1 ⟨j, lj, rfl⟩
  have hs : HStep φ φ σ.heap (wr σ.heap [(0, .cnt (k + 1))]) := by
   have := HStep.one (φ := φ) (h := σ.heap) (id := 0) (o := .cnt (k + 1)) (φ 0) (by rw [y4]; exact ⟨k + 1, rfl⟩)
   rwa [upd_self] at this
  have H2 : RH P C F' φ (wr σ.heap [(0, .cnt (k + 1))]) w' := by
   refine ⟨p3, Fz.le_trans H.more p2, fun a u h1 h2 => ?_, fun j => ?_, fun i j li lj e => H.inj i j (hlive i li).2 (hlive j lj).2 e, fun i li => H.high i (hlive i li).2, ?_, H.step.trans hs, H.glob.mono p2⟩
   ·cases hFa : F a with
    | some v => exact H.news a v hFa h2
    | none =>
     rcases p4 a u h1 hFa with h3 | h3
     ·exact .inl (Nat.le_trans H.bel.size h3)
     ·exact (hid _ h3).2.2
   ·cases ho2 : (wr σ.heap [(0, .cnt (k + 1))] j).live with
    | false => cases hh : wr σ.heap [(0, .cnt (k + 1))] j <;> first | trivial | (rw [hh] at ho2; cases ho2) | (rw [hh] at ho2; intro h0; simp [PO.live] at ho2; omega)
    | true =>
     obtain ⟨e1, e2⟩ := hlive j ho2
     rw [e1]
     refine (H.objs j).step (fun _ => rfl) hs p2 (fun lj b hb => ?_) (fun lj => p5.block _ (H.blk lj) (hap j lj))
     cases hFa : F b with
     | some v => exact p2 _ _ hFa
     | none =>
      cases hFb : F' b with
      | none => rfl
      | some v =>
       rcases p4 _ _ hFb hFa with h3 | h3
       ·have := H.blk lj; exact absurd (show w.heap.size ≤ (φ j).1 from by rw [← hb]; exact h3) (by omega)
       ·rw [hb] at h3; exact absurd h3 (hap j lj)
   ·refine ⟨p5.os.trans H.bel.os, p5.tape.trans H.bel.tape, p5.output.trans H.bel.output, Nat.le_trans H.bel.size p5.size, fun q hq he => ?_⟩
    rw [p5.block q (Nat.lt_of_lt_of_le hq H.bel.size) (fun hg => by
     rcases (hid q hg).2.2 with h3 | h3
     ·omega
     ·exact he h3)]
    exact H.bel.block q hq he
  have hown : ∀ b, own φ (wr σ.heap [(0, .cnt (k + 1))]) b → own φ σ.heap b := fun b ⟨i, li, e⟩ => ⟨i, (hlive i li).2, e⟩
  have hblk : ∀ b, own φ σ.heap b → b < w.heap.size := fun b ⟨i, li, e⟩ => e ▸ H.blk li
  have e0 : wr σ.heap [(0, .cnt (k + 1))] 0 = .cnt (k + 1) := upo_same σ.heap 0 _
  have e3 : cntOf (wr σ.heap [(0, .cnt (k + 1))]) = k + 1 := by unfold cntOf; rw [e0]
  refine hK _ _ (R_put (G := G') H2 (hr.step p2 hs) (fun b hb => ⟨p7 b hb, fun ho => ?_, ?_⟩) ⟨ms, hms, hmn, fun d hd => ?_⟩ (by rw [e3]; exact p1) (condW_true ?_))
  ·have ho' := hown b ho
   rcases p6 b hb with h3 | h3
   ·exact (hid b h3).2.1 ho'
   ·have := hblk b ho'; omega
  ·rcases p6 b hb with h3 | h3
   ·exact (hid b h3).2.2
   ·exact .inl (Nat.le_trans H.bel.size h3)
  ·obtain ⟨D, e, h1, h2, h3, h4⟩ := hmd d hd
   have hlt := lt_of_block h2
   refine ⟨D, e, h1, (p5.block D hlt h4).trans h2, fun ho => h3 (hown D ho), fun hg => ?_⟩
   rcases p6 D hg with h5 | h5
   ·exact h4 h5
   ·omega
  ·rw [y7]; exact RepT.bool _
 ·obtain ⟨fn, as, as', hl, hl', v', ids, c1, c2, c3, c4, c5, c6, c7, c8, c9, c10, c11⟩ := hz
  have hnd : ∀ c, o.op ≠ .defer c := by intro c' h'; rw [hop] at h'; cases h'
  rw [Oper.semAt_plain (Fr l) a.eval o hnd]
  obtain ⟨us, hus, hrun⟩ := run_target (P := P) (w := w) (type := o.type) hρ c1 c2.1
  have he : execOp a.eval o = (do let d ← resolve a.eval c o.type; invoke d.target d.args : Sem Next) := by
   simp only [execOp, hop]
  rw [he, hrun]
  refine ⟨fun e => (by cases e), callsIn_any ?_⟩
  let φl : Nat → Nat × Nat := fun i => φ (ids.getD i 0)
  have hRen : Ren ids φ σ.heap φl hl := ⟨fun i j hi => ⟨(c6 i j hi).1, by show φ j = φ (ids.getD i 0); rw [getD_of hi]⟩, fun i hi => (c7 i hi).1⟩
  have hus' : RPs F φl hl as' us := by
   subst c3
   refine ⟨by simpa using hus.1, fun i p u hp hu => hRen.down ?_ (hus.2 i (p.ren ids) u (by rw [List.getElem?_map, hp]; rfl) hu)⟩
   exact (List.all_eq_true.1 c5) p (List.mem_of_getElem? hp)
  have hownl : ∀ b, own φl hl b → own φ σ.heap b := by
   rintro b ⟨i, li, e⟩
   have hi := at_lt (hRen.lt_of_live li)
   exact ⟨_, by rw [hRen.live hi]; exact li, by rw [(hRen.at_ _ _ hi).2]; exact e⟩
  have hownC : ∀ b, own φ σ.heap b → C.w0.heap.size ≤ b ∨ C.E b := fun b ⟨id, hl, e⟩ => e ▸ H.high id hl
  have hsub := H.sub c4 hRen fun i j hi => (c6 i j hi).2
  have cnt_ren : ∀ (x : PO), cntOf (fun i => if i = 0 then x.ren ids else .res) = cntOf (fun i => if i = 0 then x else .res) := by
   intro x; unfold cntOf; simp only [if_true]; cases x <;> rfl
  have cnt_at : ∀ (hh : Hp), cntOf hh = cntOf (fun i => if i = 0 then hh 0 else .res) := by intro hh; unfold cntOf; simp only [if_true]
  have hc0 : cntOf hl = cntOf σ.heap := by
   rw [cnt_at hl, cnt_at σ.heap, (c6 0 0 c8).1, cnt_ren]
  have hc1 : cntOf (wr σ.heap (renW ids hl')) = cntOf hl' := by
   rw [cnt_at (wr σ.heap (renW ids hl')), cnt_at hl', renW_at c4 c8, cnt_ren]
  have hstl : Stable w.heap.size (fun b => own φl hl b ∨ G b) J := Stable.sub hst fun b hb => by
   rcases hb with hb | hb | hb
   ·exact .inl (Nat.le_trans H.bel.size hb)
   ·exact hownC b (hownl b hb)
   ·exact (hid b hb).2.2
  have hGl : ∀ b, G b → ¬ own φ σ.heap b := fun b hb => (hid b hb).2.1
  refine (c2.2 J w F φl G us hstl hY (hsub.locG G) hus' (fun b hb => ⟨(hid b hb).1, fun ho => hGl b hb (hownl b ho)⟩) (by rw [hc0]; exact hJ)).mono fun e w' hpost => ?_
  obtain ⟨u, F', φl', G', rfl, H', hv', hG', hJ'⟩ := hpost
  obtain ⟨φ', H2, hRen', hnot⟩ := H.here.joinG hGl c4 hRen H' (fun i hi => (c7 i hi).2)
  have hW : W = renW ids hl' := c10
  subst hW
  have HC := H.transE (E := fun b => own φ σ.heap b ∨ G b) (fun b hb => by
   rcases hb with hb | hb
   ·exact hownC b hb
   ·exact (hid b hb).2.2) H2
  have hsz : w.heap.size ≤ w'.heap.size := H'.bel.size
  have hold : ∀ b, own φ' (wr σ.heap (renW ids hl')) b → own φl' hl' b ∨ (own φ σ.heap b ∧ ¬ own φl hl b) := by
   rintro b ⟨j, lj, e⟩
   by_cases hj : j ∈ ids
   ·obtain ⟨i, hi, e2⟩ := List.getElem_of_mem hj
    have hi' : ids[i]? = some j := by rw [List.getElem?_eq_getElem hi, e2]
    exact .inl ⟨i, by rw [← hRen'.live hi']; exact lj, by rw [← (hRen'.at_ i j hi').2]; exact e⟩
   ·rw [renW_out hj] at lj
    rw [hnot j hj] at e
    refine .inr ⟨⟨j, lj, e⟩, fun ⟨i, li, e3⟩ => ?_⟩
    have hi := at_lt (hRen.lt_of_live li)
    have := H.inj _ j (by rw [hRen.live hi]; exact li) lj (by rw [(hRen.at_ _ _ hi).2, e3, e])
    exact hj (this ▸ List.mem_of_getElem? hi)
  have hblk : ∀ b, own φ σ.heap b → b < w.heap.size := fun b ⟨i, li, e⟩ => e ▸ H.blk li
  refine hK _ _ (R_put (G := G') HC (hr.step H2.more H2.step) (fun b hb => ?_) ⟨ms, hms, hmn, fun d hd => ?_⟩ (by rw [hc1]; exact hJ') (condW_true ?_))
  ·obtain ⟨g1, g2, g3⟩ := hG' b hb
   refine ⟨g1, fun ho => ?_, ?_⟩
   ·rcases hold b ho with ho | ⟨ho, hno⟩
    ·exact g2 ho
    ·have := hblk b ho
     rcases g3 with g3 | g3 | g3
     ·omega
     ·exact hno g3
     ·exact hGl b g3 ho
   ·rcases g3 with g3 | g3 | g3
    ·exact .inl (Nat.le_trans H.bel.size g3)
    ·exact hownC b (hownl b g3)
    ·exact (hid b g3).2.2
  ·obtain ⟨D, e, h1, h2, h3, h4⟩ := hmd d hd
   have hlt := lt_of_block h2
   have hnl : ¬ own φl hl D := fun ho => h3 (hownl D ho)
   refine ⟨D, e, h1, (H'.bel.block D hlt (fun ho => ho.elim hnl h4)).trans h2, fun ho => ?_, fun hg => ?_⟩
   ·rcases hold D ho with ho | ⟨ho, _⟩
    ·obtain ⟨i, li, e3⟩ := ho
     rcases H'.high i li with h5 | h5
     ·rw [e3] at h5; exact absurd (show w.heap.size ≤ D from h5) (by omega)
     ·rw [e3] at h5; exact h5.elim hnl h4
    ·exact h3 ho
   ·obtain ⟨_, _, g3⟩ := hG' D hg
    rcases g3 with g3 | g3 | g3
    ·omega
    ·exact hnl g3
    ·exact h4 g3
  ·rw [c9]; exact hRen'.up hv'

theorem step_sim {l : Option Nat} {n : Nat} (hY : YOk P J Y) (hst : Stable C.w0.heap.size C.E J) {ops : Array Oper} {o : Oper} {σ σ' : PS} {W : Wr} {f : Foot} {a : Act} {K : Act → World → Prop} {Q : Exit → Act → World → Prop}
  (hs : OpStep P Y ops o σ σ' W f) (hR : R P C J σ a w) (hK : ∀ a' w', R P C J σ' a' w' → K a' w') :
  if Region.wanted o (yielded ops a.tmps) = true then o.wpIn (Fr l) n P a w K Q else (∀ f, o.about P w a.eval = some f → (Fr l).fn f) ∧ K (a.put o.dst undef) w := by
 obtain ⟨F, φ, G, H, hr, hid, hm, hJ⟩ := hR
 obtain ⟨b, v, rid, hg, hv, hskip, rfl⟩ := hs
 rw [guard_sim hr hg]
 cases b with
 | false =>
  have e := hskip rfl
  subst e
  simp only [Bool.false_eq_true, if_false]
  refine ⟨fun _ _ => trivial, hK _ _ (R_put H hr hid hm hJ ?_)⟩
  have hg' : o.guard ≠ none := by
   intro e
   unfold guardO at hg
   rw [e] at hg; cases hg
  unfold condW
  split
  ·rename_i e; exact absurd e hg'
  ·exact ⟨fun e => (by cases e), fun _ => rfl⟩
 | true =>
  simp only [if_true]
  have hρ := seenBy_rep (o := o) (b := true) rfl fun x => eval_rep (a := a) H.glob hr x
  rcases hv rfl with hv0 | ⟨ids, Wf, W0, f0, hcl, hw, hv0, rfl, rfl⟩
  ·exact op_sim hY hst H hr hid hm hJ hρ hv0 hK
  ·obtain ⟨F1, H1, l1, s1⟩ := RH.freezeRows ids H.here hw
   obtain ⟨t1, t2, t3⟩ := surr hst H hid hm hJ H1
   have hc := closedG_in hcl
   have hcnt : cntOf (wr σ.heap Wf) = cntOf σ.heap := cntOf_wr Wf _ fun x o hx => by
    obtain ⟨q1, q2⟩ := (freezeW_loc ids ids (fun _ h => h) (fun _ _ => rfl) hc hw).2 x o hx
    exact ⟨freezeW_nocnt ids hw x q1, q2⟩
   have hr1 : RTm F1 φ (wr σ.heap Wf) σ.tmps a.tmps := hr.step l1 s1
   refine op_sim (σ := ⟨σ.tmps, wr σ.heap Wf⟩) hY hst (H.trans H1) hr1 t1 t2 (by show J (cntOf (wr σ.heap Wf)) F1 G w; rw [hcnt]; exact t3) (ρ := seenF (wr σ.heap Wf) ids (seenBy o true σ.eval)) (fun x => ?_) hv0 (fun a' w' hR => hK a' w' ?_)
   ·have hx := seenBy_rep (o := o) (b := true) rfl (fun x => eval_rep (σ := ⟨σ.tmps, wr σ.heap Wf⟩) (a := a) (H.trans H1).glob hr1 x) x
    unfold seenF
    split
    ·exact thawP_rep (H.trans H1) hx
    ·exact hx
   ·rw [wr_append]; exact hR

theorem pan_sim {l : Option Nat} {n : Nat} (hst : Stable C.w0.heap.size C.E J) {ops : Array Oper} {o : Oper} {σ : PS} {V : Value} {W : Wr} {a : Act} {K : Act → World → Prop} {Q : Exit → Act → World → Prop}
  (hg : guardO ops o σ = some true) (hp : OpPan P o.op (seenBy o true σ.eval) σ.heap V W) (hR : R P C J σ a w) (hK : ∀ w', R P C J ⟨σ.tmps, wr σ.heap W⟩ a w' → Q (.panic [{ v := V, recovered := false }]) a w') :
  if Region.wanted o (yielded ops a.tmps) = true then o.wpIn (Fr l) n P a w K Q else (∀ f, o.about P w a.eval = some f → (Fr l).fn f) ∧ K (a.put o.dst undef) w := by
 obtain ⟨F, φ, G, H, hr, hid, hm, hJ⟩ := hR
 rw [guard_sim hr hg]
 simp only [if_true]
 have hρ := seenBy_rep (o := o) (b := true) rfl fun x => eval_rep (a := a) H.glob hr x
 refine ⟨fun _ _ => trivial, ?_⟩
 rcases hp with ⟨rfl, x, t, tv, u, hop, hx, hu, rfl⟩ | ⟨c, hop, hc⟩
 ·have hnd : ∀ c, o.op ≠ .defer c := by intro c' h'; rw [hop] at h'; cases h'
  rw [Oper.semAt_plain (Fr l) a.eval o hnd]
  have h1 := hρ x
  rw [hx] at h1
  have h1 : RepT F (.ifc t tv) (a.eval x) := h1
  generalize he : a.eval x = v at h1
  cases h1 with
  | ifc _ _ u' hr' =>
  have e2 := valT_rep hr' hu
  subst e2
  have hrun : (execOp a.eval o).run P w = .halt (.panic (.iface t u')) w := by
   simp only [execOp, hop, he]
   rfl
  rw [hrun]
  exact hK w ⟨F, φ, G, H, hr, hid, hm, hJ⟩
 ·obtain ⟨fn, as, as', hl, hl', ids, c1, c2, c3, c4, c5, c6, c7, c8, c8', c10⟩ := hc
  have hnd : ∀ c, o.op ≠ .defer c := by intro c' h'; rw [hop] at h'; cases h'
  rw [Oper.semAt_plain (Fr l) a.eval o hnd]
  obtain ⟨us, hus, hrun⟩ := run_target (P := P) (w := w) (type := o.type) hρ c1 c2.1
  have he : execOp a.eval o = (do let d ← resolve a.eval c o.type; invoke d.target d.args : Sem Next) := by
   simp only [execOp, hop]
  rw [he, hrun]
  refine ⟨fun e => (by cases e), callsIn_any ?_⟩
  let φl : Nat → Nat × Nat := fun i => φ (ids.getD i 0)
  have hRen : Ren ids φ σ.heap φl hl := ⟨fun i j hi => ⟨(c6 i j hi).1, by show φ j = φ (ids.getD i 0); rw [getD_of hi]⟩, fun i hi => (c7 i hi).1⟩
  have hus' : RPs F φl hl as' us := by
   subst c3
   refine ⟨by simpa using hus.1, fun i p u hp hu => hRen.down ?_ (hus.2 i (p.ren ids) u (by rw [List.getElem?_map, hp]; rfl) hu)⟩
   exact (List.all_eq_true.1 c5) p (List.mem_of_getElem? hp)
  refine (c2.2 w F φl us (H.sub c4 hRen fun i j hi => (c6 i j hi).2) hus').mono fun e w' hpost => ?_
  obtain ⟨F', φl', rfl, H'⟩ := hpost
  obtain ⟨φ', H2, hRen'⟩ := H.here.join c4 hRen H' (fun i hi => (c7 i hi).2)
  have hW : W = renW ids hl' := c10
  obtain ⟨s1, s2, s3⟩ := surr hst H hid hm hJ H2
  have hcnt : cntOf (wr σ.heap (renW ids hl')) = cntOf σ.heap := by
   unfold cntOf
   by_cases h0 : 0 ∈ ids
   ·obtain ⟨i, hi, e⟩ := List.getElem_of_mem h0
    have hi' : ids[i]? = some 0 := by rw [List.getElem?_eq_getElem hi, e]
    rw [renW_at c4 hi', (c6 i 0 hi').1]
    have a1 := c8 i 0 hi'
    have a2 := c8' i 0 hi'
    cases e1 : hl i <;> cases e2 : hl' i <;> first | rfl | exact absurd e1 (a1 _) | exact absurd e2 (a2 _)
   ·rw [renW_out h0]
  subst hW
  exact hK _ ⟨F', φ', G, H.trans H2, hr.step H2.more H2.step, s1, s2, by show J (cntOf (wr σ.heap (renW ids hl'))) F' G w'; rw [hcnt]; exact s3⟩

end Go.Pm
