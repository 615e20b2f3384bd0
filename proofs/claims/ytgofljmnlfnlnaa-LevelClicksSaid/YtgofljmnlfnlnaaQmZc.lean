/- The pure machine, part Zc: loops told by what changes; tests told by what is known. -/
import Derived.Test.YtgofljmnlfnlnaaQmZb
namespace Go.Pm
open Go Go.RowKit

variable {P : Program}

/-- Of a state, the slots ds; with slots and objects told anew. -/
def keepE (ds : List Nat) (e : List (Nat × PV)) : List (Nat × PV) := ds.map fun d => (d, getA e d)
def ovr (s : CS) (ds : List Nat) (E : List (Nat × PV)) (H : Wr) : CS := ⟨E ++ keepE ds s.env, wrC s.heap H⟩
theorem keysOk_keep {n : Nat} {ds : List Nat} {e : List (Nat × PV)} (h : ds.all (· < n) = true) : keysOk n (keepE ds e) = true := by
  simp only [keysOk, keepE, List.all_map]; exact h
/-- A loop: of the slots ds those in E are told anew, and the objects in H; what comes behind it, and what a round must come to, are kept behind names. -/
theorem pwpC_loopU {sp : Spec} {X : PX} {n : Nat} {c : Code} {Q : Exit → CS → Prop} {s : CS} {A : Type} (ds : List Nat) (E : A → List (Nat × PV)) (H : A → Wr) (μ : A → Nat) (x0 : A) (hds : ds.all (· < n) = true) (hE : ∀ x, keysOk n (E x) = true) (h0 : weakW X.k s (ovr s ds (E x0) (H x0)))
    (h : ∀ Q' : Exit → CS → Prop, (∀ e s, Q e s → Q' e s) → ∀ (x : A) (I : CS → Prop), (∀ s' x', μ x' < μ x → weakW X.k s' (ovr s ds (E x') (H x')) → I s') → pwpC P sp X n c (seqC I Q') (ovr s ds (E x) (H x))) : pwpC P sp X n (.loop c) Q s :=
  pwpC_loopQ (fun x => ovr s ds (E x) (H x)) μ x0 h0 (fun x => by
    have a := hE x
    have b := keysOk_keep (e := s.env) hds
    simp only [keysOk, ovr, List.all_append, Bool.and_eq_true] at a b ⊢
    exact ⟨a, b⟩) h
attribute [go_sem] keepE ovr

theorem condC_split {sp : Spec} {X : PX} {n : Nat} {Q : Exit → CS → Prop} {σ : CS} {p : Prop} [Decidable p] {a b : Code} (h1 : p → pwpC P sp X n a Q σ) (h2 : ¬ p → pwpC P sp X n b Q σ) : condC P sp X n (.t (.bool (decide p))) a b Q σ :=
  ⟨fun h => h1 (of_decide_eq_true h), fun h => h2 (of_decide_eq_false h)⟩
theorem condC_splitB {sp : Spec} {X : PX} {n : Nat} {Q : Exit → CS → Prop} {σ : CS} {t : Bool} {a b : Code} (h1 : t = true → pwpC P sp X n a Q σ) (h2 : t = false → pwpC P sp X n b Q σ) : condC P sp X n (.t (.bool t)) a b Q σ := ⟨h1, h2⟩
/-- A test that is known. -/
theorem dec_t {p : Prop} [Decidable p] (h : p) : decide p = true := decide_eq_true h
theorem dec_lt {a b : Int} (h : a < b) : decide (a < b) = true := decide_eq_true h
theorem dec_nlt {a b : Int} (h : ¬ a < b) : decide (a < b) = false := decide_eq_false h
theorem dec_le {a b : Int} (h : a ≤ b) : decide (a ≤ b) = true := decide_eq_true h
theorem dec_nle {a b : Int} (h : ¬ a ≤ b) : decide (a ≤ b) = false := decide_eq_false h
theorem dec_gt {a b : Int} (h : a > b) : decide (a > b) = true := decide_eq_true h
theorem dec_ngt {a b : Int} (h : ¬ a > b) : decide (a > b) = false := decide_eq_false h
theorem dec_ge {a b : Int} (h : a ≥ b) : decide (a ≥ b) = true := decide_eq_true h
theorem dec_nge {a b : Int} (h : ¬ a ≥ b) : decide (a ≥ b) = false := decide_eq_false h
theorem beq_int_t {a b : Int} (h : a = b) : (a == b) = true := by simp [h]
theorem beq_int_f {a b : Int} (h : ¬ a = b) : (a == b) = false := by simp [h]
theorem bne_int_t {a b : Int} (h : ¬ a = b) : (a != b) = true := by simp [h]
theorem bne_int_f {a b : Int} (h : a = b) : (a != b) = false := by simp [h]
theorem ite_t {α : Sort _} {p : Prop} [Decidable p] {a b : α} (h : p) : (if p then a else b) = a := if_pos h
theorem ite_f {α : Sort _} {p : Prop} [Decidable p] {a b : α} (h : ¬ p) : (if p then a else b) = b := if_neg h
end Go.Pm
