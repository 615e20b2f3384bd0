/- The pure machine, part X: contracts, reckoned; the rules by which a walk is reckoned. -/
import Derived.Test.YtgofljmnlfnlnaaQmV
namespace Go.Pm
open Go Go.RowKit

variable {P : Program}

/-- The rows that are handed back, frozen. -/
def retIds (P : Program) (rs : List ResultVar) (s : CS) : List Nat := rowsI (getL s.heap) 3 (addN [] (rs.flatMap fun v => match resC1 P s v with | some p => idsG p | none => []))
def frzC (P : Program) (rs : List ResultVar) (s : CS) : CS := match retIds P rs s with
  | [] => s
  | ids => match freezeW (getL s.heap) ids with
    | some W => { env := s.env, heap := wrC s.heap W }
    | none => s
def bodyC (P : Program) (rs : List ResultVar) (r : TV) : Exit → CS → Prop
  | .normal, s | .ret, s => resC P rs (frzC P rs s) = some (.t r) ∧ cntL s.heap = 0 ∧ cntL (frzC P rs s).heap = 0
  | _, _ => False
theorem frzC_weak {k n : Nat} {rs : List ResultVar} {s : CS} (hc : cntL (frzC P rs s).heap = cntL s.heap) : Weak P k (toPS n s) (toPS n (frzC P rs s)) := by
  unfold frzC at hc ⊢
  split
  · exact Weak.refl _ _
  · rename_i ids hids
    cases hw : freezeW (getL s.heap) (retIds P rs s) with
    | none => simp only; exact Weak.refl _ _
    | some W =>
      simp only [hw] at hc ⊢
      have := weak_freeze (P := P) (k := k) (s := toPS n s) (ids := retIds P rs s) (W := W) hw (by
        have e : (toPS n s).heap = getL s.heap := rfl
        rw [e, ← getL_wr, cntL_eq, cntL_eq]
        exact hc)
      have e : (toPS n { env := s.env, heap := wrC s.heap W } : PS) = ⟨(toPS n s).tmps, wr (toPS n s).heap W⟩ := by
        unfold toPS; simp only [getL_wr]
      rw [e]; exact this
theorem frzC_keys {n : Nat} {rs : List ResultVar} {s : CS} (hk : keysOk n s.env = true) : keysOk n (frzC P rs s).env = true := by
  unfold frzC
  split
  · exact hk
  · split <;> exact hk
def bodyH (P : Program) (k : Nat) (rs : List ResultVar) (v : PV) (hl' : List PO) : Exit → CS → Prop
  | .normal, s | .ret, s => ∃ p, resC P rs s = some p ∧ cellW hl' p v ∧ v.under hl'.length = true ∧ heapW hl' s.heap hl' ∧ hl'.all (PO.under hl'.length) = true ∧ k ≤ hl'.length ∧ cntL hl' = cntL s.heap
  | _, _ => False
def bodyN (m : Nat) : Exit → CS → Prop
  | .normal, s | .ret, s => getL s.heap 0 = .cnt m
  | _, _ => False

def argsE : List PV → Nat → List (Nat × PV)
  | [], _ => []
  | x :: l, i => (i, x) :: argsE l (i + 1)
theorem argsE_keys : ∀ (l : List PV) (i n : Nat), i + l.length ≤ n → keysOk n (argsE l i) = true
  | [], _, _, _ => rfl
  | x :: l, i, n, h => by
    simp only [argsE, keysOk, List.all_cons, Bool.and_eq_true, decide_eq_true_eq]
    simp only [List.length_cons] at h
    exact ⟨by omega, by have := argsE_keys l (i + 1) n (by omega); simpa [keysOk] using this⟩
theorem argsE_get : ∀ (l : List PV) (i t : Nat), getA (argsE l i) t = if i ≤ t then (match l[t - i]? with | some x => x | none => .junk) else .junk
  | [], i, t => by simp [argsE, getA]
  | x :: l, i, t => by
    unfold argsE getA
    by_cases e : i = t
    · subst e; simp
    · rw [if_neg e, argsE_get l (i + 1) t]
      by_cases hle : i + 1 ≤ t
      · rw [if_pos hle, if_pos (by omega)]
        have : t - i = (t - (i + 1)) + 1 := by omega
        rw [this, List.getElem?_cons_succ]
      · rw [if_neg hle, if_neg (by omega)]

/-- The slots that are not told hold undef at the start: that they are forgotten does no harm. -/
theorem start_weak {k : Nat} {n : Nat} {as : List PV} {hl : List PO} (hn : as.length ≤ n) : Weak P k ⟨as ++ List.replicate (n - as.length) pv_undef, getL hl⟩ (toPS n ⟨argsE as 0, hl⟩) := by
  rintro C J a w hst hk ⟨F, φ, G, H, hr, hid, hm, hJ⟩
  refine ⟨F, φ, G, H, ⟨?_, fun i p u hp hu => ?_⟩, hid, hm, hJ⟩
  · have := hr.1; simp [toPS] at this ⊢; omega
  · simp only [toPS, List.getElem?_map, Option.map_eq_some_iff, range_get] at hp
    obtain ⟨j, hj, rfl⟩ := hp
    split at hj
    · cases hj
      rw [argsE_get]
      simp only [Nat.zero_le, if_true, Nat.sub_zero]
      cases hx : as[i]? with
      | none => trivial
      | some x =>
        refine hr.2 i x u ?_ hu
        have hlt := (List.getElem?_eq_some_iff.1 hx).1
        show (as ++ _)[i]? = _
        rw [List.getElem?_append_left hlt, hx]
    · cases hj

/-- THE CONTRACT OF A FUNCTION OF TREES, OUT OF THE BODY, RECKONED. -/
theorem pcalls_by (hm : P.follows .mixedOrders = true) {sp : Spec} (hsp : SpecOk P sp) {f : FuncId} {fn : Func} {c : Code} {args : List TV} {r : TV} (hf : P.funcs[f]? = some fn) (hb : fn.body = some c) (hname : (fn.name == "runtime.NumGoroutine") = false)
    (hn : args.length ≤ fn.ntmps) (h : pwpC P sp ⟨noY, 0, false⟩ fn.ntmps c (bodyC P fn.results.toList r) { env := argsE (args.map .t) 0, heap := [] }) : PCalls P f args r := by
  have hk : keysOk fn.ntmps (argsE (args.map .t) 0) = true := argsE_keys _ 0 _ (by simpa using hn)
  have hw := pwpC_pwp hsp c _ _ { env := argsE (args.map .t) 0, heap := [] } hk h
  have h0 : noH = getL [] := by funext i; simp [noH, getL]
  refine hcalls_of (k := 0) hm hf hb hname (fun _ _ => rfl) (by rw [h0]; exact start_weak (by simpa using hn)) (pwp_mono c (fun e σ hs => ?_) _ hw)
  obtain ⟨s', rfl, hk', hq⟩ := hs
  have fin : resC P fn.results.toList (frzC P fn.results.toList s') = some (.t r) ∧ cntL s'.heap = 0 ∧ cntL (frzC P fn.results.toList s').heap = 0 → ∃ s1, Weak P 0 (toPS fn.ntmps s') s1 ∧ ∃ p, resO P fn.results.toList s1 = some p ∧ Weak P 0 ⟨[p], s1.heap⟩ ⟨[.t r], noH⟩ := fun hq => by
    refine ⟨_, frzC_weak (rs := fn.results.toList) (by rw [hq.2.1, hq.2.2]), .t r, (resC_eq (frzC_keys hk')).trans hq.1, weak_of (m := 0) (Nat.le_refl _) rfl (fun i p p' hp hp' => ?_) (fun id hid => by omega) (fun _ _ => rfl) ?_⟩
    · rw [hp] at hp'; cases hp'
      cases i with
      | zero => simp at hp; subst hp; exact ⟨.inr (.inl rfl), rfl⟩
      | succ i => simp at hp
    · show cntOf noH = cntOf (getL (frzC P fn.results.toList s').heap)
      rw [cntL_eq, hq.2.2]; rfl
  cases e with
  | normal => exact fin hq
  | ret => exact fin hq
  | _ => exact hq.elim

/-- THE CONTRACT OF A FUNCTION THAT KNOWS OBJECTS. -/
theorem hcalls_by (hm : P.follows .mixedOrders = true) {sp : Spec} (hsp : SpecOk P sp) {f : FuncId} {fn : Func} {c : Code} {as : List PV} {hl hl' : List PO} {v : PV} (hf : P.funcs[f]? = some fn) (hb : fn.body = some c) (hname : (fn.name == "runtime.NumGoroutine") = false)
    (hn : as.length ≤ fn.ntmps) (h : pwpC P sp ⟨noY, hl.length, false⟩ fn.ntmps c (bodyH P hl.length fn.results.toList v hl') { env := argsE as 0, heap := hl }) : HCalls P f as (getL hl) v (getL hl') := by
  have hk : keysOk fn.ntmps (argsE as 0) = true := argsE_keys _ 0 _ (by omega)
  have hw := pwpC_pwp hsp c _ _ { env := argsE as 0, heap := hl } hk h
  refine hcalls_of (k := hl.length) hm hf hb hname (fun id hid => getL_out hid) (start_weak hn) (pwp_mono c (fun e σ hs => ?_) _ hw)
  obtain ⟨s', rfl, hk', hq⟩ := hs
  have fin : (∃ p, resC P fn.results.toList s' = some p ∧ cellW hl' p v ∧ v.under hl'.length = true ∧ heapW hl' s'.heap hl' ∧ hl'.all (PO.under hl'.length) = true ∧ hl.length ≤ hl'.length ∧ cntL hl' = cntL s'.heap) →
      ∃ s1, Weak P hl.length (toPS fn.ntmps s') s1 ∧ ∃ p, resO P fn.results.toList s1 = some p ∧ Weak P hl.length ⟨[p], s1.heap⟩ ⟨[v], getL hl'⟩ := by
    rintro ⟨p, h1, h2, h3, h4, h5, h6, h7⟩
    refine ⟨_, Weak.refl _ _, p, (resC_eq hk').trans h1, weak_of (m := hl'.length) h6 rfl (fun i q q' hq hq' => ?_) (fun id hid => ⟨heapW_le h4 id hid, ?_⟩) (fun id hid => getL_out hid) (by show cntOf (getL hl') = cntOf (getL s'.heap); rw [cntL_eq, cntL_eq, h7])⟩
    · cases i with
      | zero => simp at hq hq'; subst hq; subst hq'; exact ⟨cellW_le h2, h3⟩
      | succ i => simp at hq
    · rw [List.all_eq_true] at h5
      refine h5 _ ?_
      show hl'.getD id .res ∈ hl'
      rw [List.getD_eq_getElem?_getD, List.getElem?_eq_getElem hid]; exact List.getElem_mem hid
  cases e with
  | normal => exact fin hq
  | ret => exact fin hq
  | _ => exact hq.elim

/-- THE CONTRACT OF A FUNCTION THAT IS RANGED OVER. -/
theorem iter_by (hm : P.follows .mixedOrders = true) {sp : Spec} (hsp : SpecOk P sp) {f : FuncId} {fn : Func} {c : Code} {pre caps : List TV} {xs : List (List TV)} (hf : P.funcs[f]? = some fn) (hb : fn.body = some c) (hname : (fn.name == "runtime.NumGoroutine") = false) (hres : fn.results.toList = [])
    (hn : pre.length + (caps.length + 1) ≤ fn.ntmps)
    (h : ∀ (l m : Nat) (stop : Bool), m ≤ xs.length → (stop = false → m = xs.length) → (stop = true → 0 < m) →
      pwpC P sp ⟨⟨l, xs, m, stop⟩, 1, false⟩ fn.ntmps c (bodyN m) { env := argsE (pre.map .t ++ .yld l :: caps.map .t) 0, heap := [.cnt 0] }) : Iter P f pre caps xs := by
  refine iter_of hm hf hb hname hres fun l m stop h1 h2 h3 => ?_
  have hk : keysOk fn.ntmps (argsE (pre.map .t ++ .yld l :: caps.map .t) 0) = true := argsE_keys _ 0 _ (by simpa using hn)
  have hw := pwpC_pwp hsp c _ _ { env := argsE (pre.map .t ++ .yld l :: caps.map .t) 0, heap := [.cnt 0] } hk (h l m stop h1 h2 h3)
  have h0 : cnt0 = getL [.cnt 0] := by funext i; cases i <;> simp [cnt0, getL]
  refine ⟨_, ?_, pwp_mono c (fun e σ hs => ?_) _ hw⟩
  · rw [h0]
    have := start_weak (P := P) (k := 1) (n := fn.ntmps) (as := pre.map .t ++ .yld l :: caps.map .t) (hl := [.cnt 0]) (by simpa using hn)
    simpa using this
  · obtain ⟨s', rfl, hk', hq⟩ := hs
    cases e with
    | normal => exact hq
    | ret => exact hq
    | _ => exact hq.elim

end Go.Pm
