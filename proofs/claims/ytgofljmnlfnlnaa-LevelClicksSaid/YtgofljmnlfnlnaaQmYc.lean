/- The pure machine, part Yc: what the arguments of a law are. -/
import Derived.Test.YtgofljmnlfnlnaaQmYb
namespace Go.Pm
open Go Go.RowKit
variable {P : Program}

/-- The types of a struct's fields, or of an array's elements, in a row. -/
def tysOf (P : Program) (t : TypeId) : Option (List TypeId) := match P.underlying t with
  | some (.struct fs) => some (fs.toList.map (·.type))
  | some (.array n e) => some (List.replicate n e)
  | _ => none
def isI64 (P : Program) (t : TypeId) : Bool := match P.underlying t with | some (.int .i64) => true | _ => false
def isBoolT (P : Program) (t : TypeId) : Bool := match P.underlying t with | some .bool => true | _ => false
theorem cellsOk_tys {k : Nat} {t : TypeId} {ts : List TypeId} {cs : List TV} (hu : tysOf P t = some ts) (h : cellsOk P (k + 1) t cs) : seqOk (cellsOk P k) ts cs := by
  unfold tysOf at hu
  unfold cellsOk at h
  split at hu
  · rename_i fs e; cases hu; rw [e] at h; exact h
  · rename_i n e' e; cases hu; rw [e] at h; exact h
  · cases hu
theorem wf64 {n : Int} (h : (Lit.int .i64 n).wf = true) : -9223372036854775808 ≤ n ∧ n ≤ 9223372036854775807 := by
  simp [Lit.wf] at h
  exact h
theorem cellsOk_i64 {k : Nat} {t : TypeId} {cs : List TV} (hu : isI64 P t = true) (h : cellsOk P (k + 1) t cs) : ∃ n, cs = [.int .i64 n] ∧ -9223372036854775808 ≤ n ∧ n ≤ 9223372036854775807 := by
  unfold isI64 at hu
  unfold cellsOk at h
  split at hu
  · rename_i e; rw [e] at h; obtain ⟨n, rfl, hw⟩ := h; exact ⟨n, rfl, wf64 hw⟩
  · cases hu
theorem cellsOk_boolT {k : Nat} {t : TypeId} {cs : List TV} (hu : isBoolT P t = true) (h : cellsOk P (k + 1) t cs) : ∃ b, cs = [.bool b] := by
  unfold isBoolT at hu
  unfold cellsOk at h
  split at hu
  · rename_i e; rw [e] at h; exact h
  · cases hu
theorem argOk_agg {t : TypeId} {ts : List TypeId} {x : TV} (hu : tysOf P t = some ts) (h : argOk P t x) : ∃ cs, x = .agg cs ∧ cellsOk P 20 t cs := by
  unfold tysOf at hu
  unfold argOk at h
  split at hu
  · rename_i fs e; rw [e] at h; exact h
  · rename_i n e' e; rw [e] at h; exact h
  · cases hu
theorem argOk_i64 {t : TypeId} {x : TV} (hu : isI64 P t = true) (h : argOk P t x) : ∃ n, x = .int .i64 n ∧ -9223372036854775808 ≤ n ∧ n ≤ 9223372036854775807 := by
  have hu' := hu
  unfold isI64 at hu'
  unfold argOk at h
  split at hu'
  · rename_i e; rw [e] at h; obtain ⟨n, h1, h2⟩ := cellsOk_i64 hu h; cases h1; exact ⟨n, rfl, h2⟩
  · cases hu'
theorem argOk_sl {t e : TypeId} {x : TV} (hu : P.underlying t = some (.slice e)) (h : argOk P t x) : cellsOk P 20 t [x] := by
  unfold argOk at h
  rw [hu] at h
  exact h
/-- The rows of a slice, each one read. -/
theorem rows_read {α : Type} {c : α → List TV} {p : α → Prop} {q : List TV → Prop} (hd : ∀ cs, q cs → ∃ x, cs = c x ∧ p x) : ∀ rows : List (List TV), (∀ r ∈ rows, q r) → ∃ l : List α, rows.flatten = l.flatMap c ∧ l.length = rows.length ∧ ∀ x ∈ l, p x
  | [], _ => ⟨[], rfl, rfl, fun x h => by cases h⟩
  | r :: rows, h => by
    obtain ⟨x, rfl, hx⟩ := hd r (h r List.mem_cons_self)
    obtain ⟨l, h1, h2, h3⟩ := rows_read hd rows fun r hr => h r (List.mem_cons_of_mem _ hr)
    refine ⟨x :: l, by simp [h1], by simp [h2], fun y hy => ?_⟩
    rcases List.mem_cons.1 hy with rfl | hy
    · exact hx
    · exact h3 y hy
theorem cellsOk_row {α : Type} {c : α → List TV} {p : α → Prop} {k : Nat} {t e : TypeId} {x : TV} (hu : P.underlying t = some (.slice e)) (hd : ∀ cs, cellsOk P k e cs → ∃ x, cs = c x ∧ p x) (h : cellsOk P (k + 1) t [x]) :
    ∃ l : List α, ((x = .nilSl ∧ l = []) ∨ ∃ full, x = .sl (l.flatMap c) l.length full) ∧ (∀ y ∈ l, p y) ∧ l.length * P.bytesOf e ≤ reachBytes ∧ l.length ≤ maxLen := by
  unfold cellsOk at h
  rw [hu] at h
  rcases h with h | ⟨rows, full, h, hr, hb, hm⟩
  · cases h; exact ⟨[], .inl ⟨rfl, rfl⟩, (fun y hy => by cases hy), by simp, by simp⟩
  · cases h
    obtain ⟨l, h1, h2, h3⟩ := rows_read hd rows hr
    exact ⟨l, .inr ⟨full, by rw [h1, h2]⟩, h3, by rw [h2]; exact hb, by rw [h2]; exact hm⟩
theorem argsOk_cons {t : TypeId} {ts : List TypeId} {xs : List TV} (h : argsOk P (t :: ts) xs) : ∃ x r, xs = x :: r ∧ argOk P t x ∧ argsOk P ts r := by
  cases xs with
  | nil => exact h.elim
  | cons x r => exact ⟨x, r, rfl, h.1, h.2⟩
theorem argsOk_nil {xs : List TV} (h : argsOk P [] xs) : xs = [] := by
  cases xs with
  | nil => rfl
  | cons x r => exact h.elim
theorem seqOk_nil {α : Type} {r : α → List TV → Prop} {cs : List TV} (h : seqOk r [] cs) : cs = [] := h
theorem seqOk_cons {α : Type} {r : α → List TV → Prop} {x : α} {l : List α} {cs : List TV} (h : seqOk r (x :: l) cs) : ∃ a b, cs = a ++ b ∧ r x a ∧ seqOk r l b := h
end Go.Pm
