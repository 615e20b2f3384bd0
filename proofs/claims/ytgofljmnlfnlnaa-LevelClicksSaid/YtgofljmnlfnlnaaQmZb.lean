/- The pure machine, part Zb: ranges over functions. -/
import Derived.Test.YtgofljmnlfnlnaaQmZ
namespace Go.Pm
open Go Go.RowKit

variable {P : Program}

/-- A range over a function, to its end. -/
theorem pwpC_range {sp : Spec} {X : PX} {n : Nat} {g : Operand} {ps : Array Tmp} {assign body : Code} {Q : Exit → CS → Prop} {s : CS} (hX : X.inr = false) (f : FuncId) (pre caps : List TV) (xs : List (List TV)) (T : List (Nat × PV)) (S : Nat → List PO) (k : Nat)
    (h0 : weakW X.k s ⟨T, S 0⟩) (hT : keysOk n T = true) (hps : ps.toList.all (· < n) = true) (hg : (⟨T, S 0⟩ : CS).eval g = .t (.fn f pre caps)) (hI : Iter P f pre caps xs) (hlen : ∀ x ∈ xs, x.length = ps.size) (hk : ∀ i, (S i).length ≤ k) (hc : ∀ i, cntL (S i) = cntL (S 0))
    (round : ∀ i x, xs[i]? = some x → pwpC P sp ⟨noY, k, true⟩ n assign (seqC (pwpC P sp ⟨noY, k, true⟩ n body fun e' s' => e' = .normal ∧ weakW k ⟨[], s'.heap⟩ ⟨[], S (i + 1)⟩) fun _ _ => False) ⟨setEnv T ps.toList x, S i⟩)
    (hQ : Q .normal ⟨T, S xs.length⟩) : pwpC P sp X n (.rangeFunc g ps assign body) Q s :=
  ⟨hX, f, pre, caps, xs, T, S, k, xs.length, false, .normal, h0, hT, hps, hg, hI, hlen, Nat.le_refl _, fun _ => ⟨rfl, rfl⟩, fun h => (by cases h), hk, fun i => by rw [cntL_eq, cntL_eq]; exact hc i,
    fun i x hi hx => by simpa using round i x hx, hQ⟩
attribute [go_sem] setEnv
/-- A loop; what comes behind it, and what a round must come to, are kept behind names. -/
theorem pwpC_loopQ {sp : Spec} {X : PX} {n : Nat} {c : Code} {Q : Exit → CS → Prop} {s : CS} {A : Type} (S : A → CS) (μ : A → Nat) (x0 : A) (h0 : weakW X.k s (S x0)) (hS : ∀ x, keysOk n (S x).env = true)
    (h : ∀ Q' : Exit → CS → Prop, (∀ e s, Q e s → Q' e s) → ∀ (x : A) (I : CS → Prop), (∀ s' x', μ x' < μ x → weakW X.k s' (S x') → I s') → pwpC P sp X n c (seqC I Q') (S x)) : pwpC P sp X n (.loop c) Q s :=
  ⟨A, S, μ, x0, h0, hS, fun x => h Q (fun _ _ h => h) x _ fun _ x' h1 h2 => ⟨x', h2, h1⟩⟩
end Go.Pm
