/- The pure machine, part E: the operations that only reckon. -/
import Derived.Test.YtgofljmnlfnlnaaQmD
namespace Go.Pm
open Go Go.RowKit

variable {P : Program} {C : Cx} {F F' : Fz} {φ φ' : Nat → Nat × Nat} {h h' : Hp} {w w' : World}

theorem run_cmp {op : BinOp} {a b : Int} {c : Bool} (hc : cmpT op a b = some c) : (Op.intCmp op a b).run P w = .ok (.bool c) w := by
  cases op <;> simp [cmpT] at hc <;> subst hc <;> simp [Op.intCmp]

theorem run_int {op : BinOp} {k : IntKind} {a b : Int} {x : TV} {xt : TypeId} (hx : binT P op xt (.int k a) (.int k b) = some x) :
    ∃ u, (binOp op xt (.int k a) (.int k b)).run P w = .ok u w ∧ RepT F x u := by
  have hcmp : ∀ op' : BinOp, (cmpT op' a b).map TV.bool = some x → ∃ u, (Op.intCmp op' a b).run P w = .ok u w ∧ RepT F x u := by
    intro op' h
    simp only [Option.map_eq_some_iff] at h
    obtain ⟨c, hc, rfl⟩ := h
    exact ⟨_, run_cmp hc, .bool c⟩
  cases op with
  | add => simp [binT, intT] at hx; subst hx; exact ⟨_, by simp [binOp, Op.intArith], .int _ _⟩
  | sub => simp [binT, intT] at hx; subst hx; exact ⟨_, by simp [binOp, Op.intArith], .int _ _⟩
  | mul => simp [binT, intT] at hx; subst hx; exact ⟨_, by simp [binOp, Op.intArith], .int _ _⟩
  | quo => simp [binT, intT] at hx; obtain ⟨hb, rfl⟩ := hx; exact ⟨_, by simp [binOp, Op.intDiv, hb], .int _ _⟩
  | rem => simp [binT, intT] at hx; obtain ⟨hb, rfl⟩ := hx; exact ⟨_, by simp [binOp, Op.intDiv, hb], .int _ _⟩
  | and => simp [binT, intT] at hx; subst hx; exact ⟨_, by simp [binOp, Op.intBits], .int _ _⟩
  | or => simp [binT, intT] at hx; subst hx; exact ⟨_, by simp [binOp, Op.intBits], .int _ _⟩
  | xor => simp [binT, intT] at hx; subst hx; exact ⟨_, by simp [binOp, Op.intBits], .int _ _⟩
  | andNot => simp [binT, intT] at hx; subst hx; exact ⟨_, by simp [binOp, Op.intBits], .int _ _⟩
  | shl => simp [binT, shiftT] at hx; obtain ⟨hb, rfl⟩ := hx; exact ⟨_, by simp [binOp, Op.shift, Int.not_lt.2 hb], .int _ _⟩
  | shr => simp [binT, shiftT] at hx; obtain ⟨hb, rfl⟩ := hx; exact ⟨_, by simp [binOp, Op.shift, Int.not_lt.2 hb], .int _ _⟩
  | eql => obtain ⟨u, h1, h2⟩ := hcmp .eql (by simpa [binT, intT] using hx); exact ⟨u, by simpa [binOp] using h1, h2⟩
  | neq => obtain ⟨u, h1, h2⟩ := hcmp .neq (by simpa [binT, intT] using hx); exact ⟨u, by simpa [binOp] using h1, h2⟩
  | lss => obtain ⟨u, h1, h2⟩ := hcmp .lss (by simpa [binT, intT] using hx); exact ⟨u, by simpa [binOp] using h1, h2⟩
  | leq => obtain ⟨u, h1, h2⟩ := hcmp .leq (by simpa [binT, intT] using hx); exact ⟨u, by simpa [binOp] using h1, h2⟩
  | gtr => obtain ⟨u, h1, h2⟩ := hcmp .gtr (by simpa [binT, intT] using hx); exact ⟨u, by simpa [binOp] using h1, h2⟩
  | geq => obtain ⟨u, h1, h2⟩ := hcmp .geq (by simpa [binT, intT] using hx); exact ⟨u, by simpa [binOp] using h1, h2⟩

theorem run_eqFields {d n : Nat} (ih : ∀ (t : TypeId) (x y : TV) (u v : Value) (b : Bool), eqT P n t x y = some b → RepT F x u → RepT F y v → (Op.equalIn d t u v).run P w = .ok b w)
    {xs ys : List TV} {us vs : List Value} (hx : RepL F xs us) (hx1 : ∀ (i : Nat) (u : Value), us[i]? = some u → u.oneCell' = true) (hy : RepL F ys vs) (hy1 : ∀ (i : Nat) (u : Value), vs[i]? = some u → u.oneCell' = true) :
    ∀ (fs : List Field) (b : Bool), eqFs P (eqT P n) xs ys fs = some b → (Op.eqFields d us.toArray vs.toArray fs).run P w = .ok b w
  | [], b, hb => by simp [eqFs] at hb; subst hb; simp [Op.eqFields]
  | f :: fs, b, hb => by
    simp only [eqFs] at hb
    simp only [Op.eqFields, Sem.run_ite]
    by_cases hf : f.name ≠ "_"
    · rw [if_pos hf] at hb ⊢
      split at hb
      · rename_i x y hpx hpy
        split at hb
        · rename_i b1 b2 h1 h2
          simp only [Option.some.injEq] at hb; subst hb
          obtain ⟨u, hu, ru⟩ := part_rep (P := P) (w := w) hpx hx hx1
          obtain ⟨v, hv, rv⟩ := part_rep (P := P) (w := w) hpy hy hy1
          have e1 := ih f.type x y u v b1 h1 ru rv
          have e2 := run_eqFields ih hx hx1 hy hy1 fs b2 h2
          simp only [Sem.run_bind, hu, Result.andThen_ok, hv, e1, Sem.run_ite]
          cases b1 <;> simp [e2]
        · cases hb
      · cases hb
    · rw [if_neg hf] at hb ⊢
      exact run_eqFields ih hx hx1 hy hy1 fs b hb

theorem run_eqArray {d n e sz : Nat} (ih : ∀ (t : TypeId) (x y : TV) (u v : Value) (b : Bool), eqT P n t x y = some b → RepT F x u → RepT F y v → (Op.equalIn d t u v).run P w = .ok b w)
    {xs ys : List TV} {us vs : List Value} (hx : RepL F xs us) (hx1 : ∀ (i : Nat) (u : Value), us[i]? = some u → u.oneCell' = true) (hy : RepL F ys vs) (hy1 : ∀ (i : Nat) (u : Value), vs[i]? = some u → u.oneCell' = true) :
    ∀ (k i : Nat) (b : Bool), eqAs P (eqT P n) xs ys e sz k i = some b →
      (forIn (m := Sem) (List.range' i k) ((none, ()) : Option Bool × Unit) (fun i (_ : Option Bool × Unit) => do
        if (!(← Op.equalIn d e (← part e us.toArray (i * sz)) (← part e vs.toArray (i * sz)))) = true then pure (ForInStep.done ((some false, ()) : Option Bool × Unit)) else pure (ForInStep.yield (none, ())))).run P w
        = .ok (if b then (none, ()) else (some false, ())) w
  | 0, i, b, hb => by simp [eqAs] at hb; subst hb; simp
  | k + 1, i, b, hb => by
    simp only [eqAs] at hb
    split at hb
    · rename_i x y hpx hpy
      split at hb
      · rename_i b1 b2 h1 h2
        simp only [Option.some.injEq] at hb; subst hb
        obtain ⟨u, hu, ru⟩ := part_rep (P := P) (w := w) hpx hx hx1
        obtain ⟨v, hv, rv⟩ := part_rep (P := P) (w := w) hpy hy hy1
        have e1 := ih e x y u v b1 h1 ru rv
        have e2 := run_eqArray ih hx hx1 hy hy1 k (i + 1) b2 h2
        simp only [List.range'_succ, List.forIn_cons, Sem.run_bind, hu, Result.andThen_ok, hv, e1, Sem.run_ite]
        cases b1
        · simp
        · simpa using e2
      · cases hb
    · cases hb

theorem run_equalIn {t : TypeId} {x y : TV} {u v : Value} {b : Bool} : ∀ (n d : Nat), n ≤ d → eqT P n t x y = some b → RepT F x u → RepT F y v → (Op.equalIn d t u v).run P w = .ok b w := by
  intro n
  induction n generalizing t x y u v b with
  | zero => intro d _ hb; simp [eqT] at hb
  | succ n ih =>
    intro d hd hb ru rv
    obtain ⟨d, rfl⟩ : ∃ d', d = d' + 1 := ⟨d - 1, by omega⟩
    have hd' : n ≤ d := by omega
    simp only [eqT] at hb
    split at hb
    · rename_i a c ht; cases ru; cases rv; simp at hb; subst hb; simp [Op.equalIn, run_underlying' ht]
    · rename_i k' a k'' c ht
      cases ru; cases rv
      split at hb
      · rename_i hk; subst hk; simp at hb; subst hb; simp [Op.equalIn, run_underlying' ht]
      · cases hb
    · rename_i a c ht; cases ru; cases rv; simp at hb; subst hb; exact run_equalIn_string w d t _ _ ht
    · rename_i ht; cases ru; cases rv; simp at hb; subst hb; simp [Op.equalIn, run_underlying' ht]
    · rename_i ht; cases ru; cases rv; simp at hb; subst hb; simp [Op.equalIn, run_underlying' ht]
    · rename_i ht; cases ru; cases rv; simp at hb; subst hb; simp [Op.equalIn, run_underlying' ht]
    · rename_i fs xs ys ht
      cases ru with
      | agg _ us l1 o1 r1 =>
        cases rv with
        | agg _ vs l2 o2 r2 =>
          split at hb
          · cases hb
          · rename_i hst
            have hfs : P.fieldsOf t = fs := by simp [Program.fieldsOf, ht]
            rw [run_equalIn_struct w d t _ _ (by rw [hfs]; exact ht) (by simpa using hst), hfs]
            exact run_eqFields (fun t x y u v b hb ru rv => ih d hd' hb ru rv) ⟨l1, r1⟩ o1 ⟨l2, r2⟩ o2 fs.toList b hb
    · rename_i len e xs ys ht
      cases ru with
      | agg _ us l1 o1 r1 =>
        cases rv with
        | agg _ vs l2 o2 r2 =>
          split at hb
          · rename_i sz hsz
            have hloop := run_eqArray (P := P) (w := w) (e := e) (sz := sz) (fun t x y u v b hb ru rv => ih d hd' hb ru rv) ⟨l1, r1⟩ o1 ⟨l2, r2⟩ o2 len 0 b hb
            simp only [Op.equalIn, Sem.run_bind, run_underlying' ht, Result.andThen_ok, run_sizeOf' hsz]
            rw [Std.Legacy.Range.forIn_eq_forIn_range']
            simp only [Std.Legacy.Range.size, Nat.sub_zero, Nat.add_sub_cancel, Nat.div_one]
            rw [hloop]
            cases b <;> simp
          · cases hb
    · cases hb

theorem run_eqGuard {op : BinOp} {xt : TypeId} {x y : Operand} {u v : Value} (hu : u ≠ .nilIface) (ha : (∀ cs, u ≠ .agg cs) ∨ P.eqGuardType P.depth xt = false) : (eqGuard op xt x y u v).run P w = .ok () w := by
  cases u with
  | nilIface => exact absurd rfl hu
  | agg cs =>
    rcases ha with ha | ha
    · exact absurd rfl (ha _)
    · cases v <;> cases op <;> simp [eqGuard, ha]
  | _ => cases op <;> simp [eqGuard]

theorem sim_binOp (H : RH P C F φ h w) {op : BinOp} {xt : TypeId} {x y : Operand} {a b c : TV} {u v : Value} (hc : binT P op xt a b = some c) (ru : RepT F a u) (rv : RepT F b v) :
    Sim P C h (((do pure (Next.value (← (do eqGuard op xt x y u v; binOp op xt u v))) : Sem Next)).run P w) (.t c) [] := by
  suffices hs : (eqGuard op xt x y u v).run P w = .ok () w ∧ ∃ z, (binOp op xt u v).run P w = .ok z w ∧ RepT F c z by
    obtain ⟨h1, z, h2, h3⟩ := hs
    refine Sim.quiet H (u := z) ?_ h3
    simp only [Sem.run_bind, h1, Result.andThen_ok, h2, Sem.run_pure]
  have eqs : ∀ {r : Bool}, eqT P 20 xt a b = some r → (Op.equal xt u v).run P w = .ok r w := fun hr => run_equalIn 20 Op.maxDepth (by decide) hr ru rv
  unfold binT at hc
  split at hc
  · cases ru; cases rv; rename_i k' n k'' m
    refine ⟨run_eqGuard (by simp) (.inl (by simp)), ?_⟩
    simp only [shiftT] at hc
    split at hc
    · cases hc
    · rename_i hb; simp at hc; subst hc; exact ⟨_, by simp [binOp, Op.shift, hb], .int _ _⟩
  · cases ru; cases rv; rename_i k' n k'' m
    refine ⟨run_eqGuard (by simp) (.inl (by simp)), ?_⟩
    simp only [shiftT] at hc
    split at hc
    · cases hc
    · rename_i hb; simp at hc; subst hc; exact ⟨_, by simp [binOp, Op.shift, hb], .int _ _⟩
  · cases ru; cases rv; rename_i op k' n k'' m hs1 hs2
    refine ⟨run_eqGuard (by simp) (.inl (by simp)), ?_⟩
    split at hc
    · rename_i hk; subst hk
      refine run_int (F := F) (xt := xt) ?_
      cases op <;> simp [binT, hc] <;> first | exact hc | (exact absurd rfl (hs1 _ _ _ _ rfl rfl)) | skip
      all_goals simp [intT, cmpT] at hc
    · cases hc
  · rename_i xs ys
    split at hc
    · cases hc
    · rename_i hg
      simp only [Option.map_eq_some_iff] at hc
      obtain ⟨r, hr, rfl⟩ := hc
      have e := eqs hr
      cases ru; cases rv
      exact ⟨run_eqGuard (by simp) (.inr (by simpa using hg)), _, by simp [binOp, e], .bool _⟩
  · rename_i xs ys
    split at hc
    · cases hc
    · rename_i hg
      simp only [Option.map_eq_some_iff] at hc
      obtain ⟨r, hr, rfl⟩ := hc
      have e := eqs hr
      cases ru; cases rv
      exact ⟨run_eqGuard (by simp) (.inr (by simpa using hg)), _, by simp [binOp, e], .bool _⟩
  · simp only [Option.map_eq_some_iff] at hc
    obtain ⟨r, hr, rfl⟩ := hc
    have e := eqs hr
    cases ru; cases rv
    exact ⟨run_eqGuard (by simp) (.inl (by simp)), _, by simp [binOp, e], .bool _⟩
  · simp only [Option.map_eq_some_iff] at hc
    obtain ⟨r, hr, rfl⟩ := hc
    have e := eqs hr
    cases ru; cases rv
    exact ⟨run_eqGuard (by simp) (.inl (by simp)), _, by simp [binOp, e], .bool _⟩
  · simp only [Option.map_eq_some_iff] at hc
    obtain ⟨r, hr, rfl⟩ := hc
    have e := eqs hr
    cases ru; cases rv
    exact ⟨run_eqGuard (by simp) (.inl (by simp)), _, by simp [binOp, e], .bool _⟩
  · simp only [Option.map_eq_some_iff] at hc
    obtain ⟨r, hr, rfl⟩ := hc
    have e := eqs hr
    cases ru; cases rv
    exact ⟨run_eqGuard (by simp) (.inl (by simp)), _, by simp [binOp, e], .bool _⟩
  · simp only [Option.map_eq_some_iff] at hc
    obtain ⟨r, hr, rfl⟩ := hc
    have e := eqs hr
    cases ru; cases rv
    exact ⟨run_eqGuard (by simp) (.inl (by simp)), _, by simp [binOp, e], .bool _⟩
  · simp only [Option.map_eq_some_iff] at hc
    obtain ⟨r, hr, rfl⟩ := hc
    have e := eqs hr
    cases ru; cases rv
    exact ⟨run_eqGuard (by simp) (.inl (by simp)), _, by simp [binOp, e], .bool _⟩
  all_goals try (cases ru; cases rv; simp at hc; subst hc; exact ⟨run_eqGuard (by simp) (.inl (by simp)), _, by simp [binOp, Op.stringOp], .bool _⟩)
  · rename_i s1 s2
    cases ru; cases rv
    split at hc
    · rename_i hle
      simp at hc; subst hc
      refine ⟨run_eqGuard (by simp) (.inl (by simp)), _, ?_, .str _⟩
      have : ¬ (((s1.size + s2.size : Nat) : Int) > IntKind.i64.max) := by simp [IntKind.max, IntKind.signed, IntKind.bits]; omega
      simp only [binOp, Op.stringOp]
      rw [if_neg this]; rfl
    · cases hc
  · cases hc

end Go.Pm
