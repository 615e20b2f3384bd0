/- The pure machine, part U: a walk, reckoned. -/
import Derived.Test.YtgofljmnlfnlnaaQmT
namespace Go.Pm
open Go Go.RowKit

variable {P : Program}

/-- A call, reckoned. -/
def callC (sp : Spec) (t : Option (FuncId × List PV)) (h : List PO) : Option (PV × Wr × Foot) :=
  match t with
  | none => none
  | some (f, as) => match allO (as.map PV.toT) with
    | some ts => (sp.p f ts).map fun r => (.t r, [], ([], true))
    | none =>
      let ids := reachN (getL h) 3 (addN [] (as.flatMap idsP))
      if idsOk (getL h) ids as && ids.all (· < h.length) then
        match sp.h f (as.map (PV.inv ids)) (ids.map fun j => (getL h j).inv ids) with
        | some (v, hl') => if ids.length ≤ hl'.length ∧ hl'.all (fun o => !isCnt o) = true then
            let ids' := ids ++ (List.range (hl'.length - ids.length)).map fun i => h.length + i
            some (v.ren ids', (ids'.zip hl').map (fun p => (p.1, p.2.ren ids')), (ids', true))
          else none
        | none => none
      else none

/-- Is a new row one that is written? -/
def muOf (sp : Spec) (op : Op) : Bool := match op with
  | .buildSlice t _ _ => sp.mu t
  | .call { callee := .builtin .append, argTypes := ts, .. } => match ts.toList with | t :: _ => sp.mu t | _ => false
  | _ => false
noncomputable def valC0 (P : Program) (sp : Spec) (op : Op) (ρ : Operand → PV) (h : List PO) : Option (PV × Wr × Foot) :=
  match op with
  | .call { callee := .builtin b, args := args, argTypes := ts } => if muOf sp (.call { callee := .builtin b, args := args, argTypes := ts }) then (popM P (.call { callee := .builtin b, args := args, argTypes := ts }) ρ (getL h) h.length).map fun r => (r.1, r.2, footO (.call { callee := .builtin b, args := args, argTypes := ts }) ρ h.length)
      else (pop P (.call { callee := .builtin b, args := args, argTypes := ts }) ρ (getL h) h.length).map fun r => (r.1, r.2, footO (.call { callee := .builtin b, args := args, argTypes := ts }) ρ h.length)
  | .call c => callC sp (targetO P c ρ) h
  | .makeFunc (.func f) first caps => if sp.fz f then (popF (.makeFunc (.func f) first caps) ρ (getL h)).map fun r => (r.1, r.2.1, (r.2.2, true))
      else (pop P (.makeFunc (.func f) first caps) ρ (getL h) h.length).map fun r => (r.1, r.2, footO (.makeFunc (.func f) first caps) ρ h.length)
  | .buildSlice t n ps => if sp.mu t then (popM P (.buildSlice t n ps) ρ (getL h) h.length).map fun r => (r.1, r.2, ([h.length], true)) else (pop P (.buildSlice t n ps) ρ (getL h) h.length).map fun r => (r.1, r.2, ([], true))
  | op => (pop P op ρ (getL h) h.length).map fun r => (r.1, r.2, footQ op ρ h.length)
/-- The rows that values speak of, the inner ones first. -/
def rowsI (h : Hp) : Nat → List Nat → List Nat
  | 0, ids => ids
  | k + 1, ids => addN [] (ids.flatMap fun id => (match h id with | .grow _ cells _ _ => rowsI h k (addN [] (cells.flatMap idsG)) | _ => []) ++ [id])
def fzIds (P : Program) (sp : Spec) (op : Op) (ρ : Operand → PV) (h : List PO) : List Nat :=
  match op with
  | .call c => match targetO P c ρ with
    | some (f, as) => if sp.fr f then rowsI (getL h) 3 (addN [] (as.flatMap idsG)) else []
    | none => match c.callee with
      | .value g => match ρ g with
        | .yld _ => rowsI (getL h) 3 (addN [] ((c.args.toList.map ρ).flatMap idsG))
        | _ => []
      | _ => []
  | _ => []
/-- An operation, behind what it freezes. -/
noncomputable def valC (P : Program) (sp : Spec) (op : Op) (ρ : Operand → PV) (h : List PO) : Option (PV × Wr × Foot) :=
  match fzIds P sp op ρ h with
  | [] => valC0 P sp op ρ h
  | id :: l => match freezeW (getL h) (id :: l) with
    | some Wf => if closedG (getL h) (id :: l) then (valC0 P sp op (seenF (wr (getL h) Wf) (id :: l) ρ) (wrC h Wf)).map fun r => (r.1, Wf ++ r.2.1, (id :: l ++ r.2.2.1, true)) else none
    | none => none

theorem callC_val {sp : Spec} (hsp : SpecOk P sp) {c : Call} {ρ : Operand → PV} {h : List PO} {v : PV} {W : Wr} {f : Foot} (hc : callC sp (targetO P c ρ) h = some (v, W, f)) : CallVal P c ρ (getL h) v W f := by
  unfold callC at hc
  split at hc
  · cases hc
  · rename_i fn as ht
    split at hc
    · rename_i ts hts
      simp only [Option.map_eq_some_iff] at hc
      obtain ⟨r, hr, he⟩ := hc
      simp only [Prod.mk.injEq] at he
      obtain ⟨rfl, rfl, rfl⟩ := he
      have has : as = ts.map .t ∨ ∃ p ∈ as, ∃ cs n id, p = .own cs n id := by
        by_cases hx : ∃ p ∈ as, ∃ cs n id, p = .own cs n id
        · exact .inr hx
        · left
          obtain ⟨h1, h2⟩ := allO_some hts
          apply List.ext_getElem?
          intro i
          rw [List.getElem?_map]
          cases ha : as[i]? with
          | none => rw [List.getElem?_eq_none (by rw [h1]; exact List.getElem?_eq_none_iff.1 ha)]; rfl
          | some p =>
            have hi : i < ts.length := by rw [h1]; exact (List.getElem?_eq_some_iff.1 ha).1
            have ht' := List.getElem?_eq_getElem hi
            have := h2 i p _ ha ht'
            rw [ht']
            cases p <;> simp [PV.toT] at this
            · simp [this]
            · rename_i cs n id; exact absurd ⟨_, List.mem_of_getElem? ha, cs, n, id, rfl⟩ hx
      rcases has with has | ⟨p, hp, cs, n, id, rfl⟩
      · refine ⟨fn, as, as, noH, noH, .t r, [], ht, by rw [has]; exact hsp.1 fn ts r hr, ?_, List.nodup_nil, ?_, fun i j hi => by simp at hi, fun i _ => ⟨rfl, rfl⟩, fun i j hi => by simp at hi, fun i j hi => by simp at hi, rfl, rfl, rfl⟩
        · rw [has, List.map_map]; rfl
        · rw [has]; simp [PV.under]
      · exfalso
        -- no row of one's own is handed over
        have key : ∀ (l : List Operand), PV.own cs n id ∉ l.map fun a => normA (ρ a) := by
          intro l hm
          obtain ⟨a, _, ha⟩ := List.mem_map.1 hm
          unfold normA at ha
          split at ha
          · cases ha
          · rename_i hn; rw [ha] at hn; cases hn
        unfold targetO at ht
        split at ht
        · split at ht
          · simp only [Option.some.injEq, Prod.mk.injEq] at ht
            rw [← ht.2] at hp
            rcases List.mem_append.1 hp with hp | hp
            · rcases List.mem_append.1 hp with hp | hp
              · obtain ⟨x, _, hx⟩ := List.mem_map.1 hp; cases hx
              · exact key _ hp
            · obtain ⟨x, _, hx⟩ := List.mem_map.1 hp; cases hx
          · simp only [Option.some.injEq, Prod.mk.injEq] at ht
            rw [← ht.2] at hp
            rcases List.mem_append.1 hp with hp | hp
            · exact key _ hp
            · obtain ⟨x, _, hx⟩ := List.mem_map.1 hp; cases hx
          · cases ht
        · split at ht
          · split at ht
            · simp only [Option.some.injEq, Prod.mk.injEq] at ht
              rw [← ht.2] at hp
              rcases List.mem_cons.1 hp with hp | hp
              · cases hp
              · exact key _ hp
            · cases ht
          · cases ht
        · cases ht
    · simp only at hc
      generalize hids : reachN (getL h) 3 (addN [] (as.flatMap idsP)) = ids at hc
      split at hc
      · rename_i hok
        simp only [Bool.and_eq_true] at hok
        obtain ⟨hok, hlt⟩ := hok
        unfold idsOk at hok
        simp only [Bool.and_eq_true, List.all_eq_true] at hok
        obtain ⟨⟨hn, ha⟩, hcl⟩ := hok
        have hn := nodupN_iff hn
        simp only [List.all_eq_true, decide_eq_true_eq] at hlt
        split at hc
        · rename_i v' hl' hsv
          split at hc
          · rename_i hlen
            simp only [Option.some.injEq, Prod.mk.injEq] at hc
            obtain ⟨rfl, rfl, rfl⟩ := hc
            obtain ⟨hlen, hncnt⟩ := hlen
            generalize hg : (List.range (hl'.length - ids.length)).map (fun i => h.length + i) = g
            have hgl : g.length = hl'.length - ids.length := by rw [← hg]; simp
            have hgm : ∀ j ∈ g, h.length ≤ j := by
              intro j hj; rw [← hg] at hj
              obtain ⟨i, _, rfl⟩ := List.mem_map.1 hj; omega
            have hgn : g.Nodup := by
              rw [← hg, ← List.range'_eq_map_range]
              exact List.nodup_range'
            have hnd : (ids ++ g).Nodup := List.nodup_append.2 ⟨hn, hgn, fun a ha b hb e => by have := hlt a ha; have := hgm b hb; omega⟩
            have hll : (ids ++ g).length = hl'.length := by rw [List.length_append, hgl]; omega
            have hW : ((ids ++ g).zip hl').map (fun p => (p.1, p.2.ren (ids ++ g))) = renW (ids ++ g) (getL hl') := by
              unfold renW
              apply List.ext_getElem?
              intro i
              rw [List.getElem?_map, List.getElem?_map, range_get]
              by_cases hi : i < (ids ++ g).length
              · have h1 := at_lt hi
                have h2 : hl'[i]? = some (hl'.getD i .res) := by rw [List.getD_eq_getElem?_getD, List.getElem?_eq_getElem (by omega)]; rfl
                rw [if_pos hi, List.zip, List.getElem?_zipWith, h1, h2]; rfl
              · rw [if_neg hi, List.zip, List.getElem?_zipWith, List.getElem?_eq_none (Nat.le_of_not_lt hi)]; rfl
            have hmap : ∀ (i j : Nat), (ids ++ g)[i]? = some j → (i < ids.length ∧ ids[i]? = some j) ∨ (ids.length ≤ i ∧ j ∈ g) := by
              intro i j hi
              by_cases h1 : i < ids.length
              · rw [List.getElem?_append_left h1] at hi; exact .inl ⟨h1, hi⟩
              · rw [List.getElem?_append_right (Nat.le_of_not_lt h1)] at hi; exact .inr ⟨Nat.le_of_not_lt h1, List.mem_of_getElem? hi⟩
            have hin : ∀ (i j : Nat), ids[i]? = some j → getL (ids.map fun j => (getL h j).inv ids) i = (getL h j).inv ids := by
              intro i j hi
              unfold getL
              rw [List.getD_eq_getElem?_getD, List.getElem?_map, hi]; rfl
            have hout : ∀ i, ids.length ≤ i → getL (ids.map fun j => (getL h j).inv ids) i = .res := fun i hi => getL_out (by simpa using hi)
            refine ⟨fn, as, as.map (PV.inv ids), getL (ids.map fun j => (getL h j).inv ids), getL hl', v', ids ++ g, ht, hsp.2 fn _ _ v' hl' hsv, ?_, hnd, ?_, fun i j hi => ?_, fun i hi => ?_, fun i j hi => ?_, fun i j hi => ?_, rfl, by rw [hW]; rfl, rfl⟩
            · rw [List.map_map]
              have : as.map (PV.ren (ids ++ g) ∘ PV.inv ids) = as.map id := List.map_congr_left fun p hp => (inv_ren g (List.all_eq_true.2 (ha p hp))).1
              rw [this, List.map_id]
            · simp only [List.all_map, List.all_eq_true, Function.comp]
              exact fun p hp => under_mono (by simp) (inv_ren g (List.all_eq_true.2 (ha p hp))).2
            · rcases hmap i j hi with ⟨h1, h2⟩ | ⟨h1, h2⟩
              · rw [hin i j h2]
                have hc := inv_renO g (List.all_eq_true.2 ((hcl j (List.mem_of_getElem? h2)).1))
                exact ⟨hc.1.symm, under_monoO (by simp) hc.2⟩
              · rw [hout i h1]; exact ⟨getL_out (hgm j h2), rfl⟩
            · exact ⟨hout i (by simp at hi; omega), getL_out (by omega)⟩
            · rcases hmap i j hi with ⟨h1, h2⟩ | ⟨h1, h2⟩
              · rw [hin i j h2]
                have := (hcl j (List.mem_of_getElem? h2)).2
                intro n hh
                cases hx : getL h j <;> rw [hx] at hh this <;> first | (simp [isCnt] at this; done) | cases hh
              · rw [hout i h1]; simp
            · have hi' : i < hl'.length := by have := (List.getElem?_eq_some_iff.1 hi).1; omega
              simp only [List.all_eq_true] at hncnt
              have hm : getL hl' i ∈ hl' := by
                unfold getL; rw [List.getD_eq_getElem?_getD, List.getElem?_eq_getElem hi']; exact List.getElem_mem hi'
              have := hncnt _ hm
              exact isCnt_not (by simpa using this)
          · cases hc
        · cases hc
      · cases hc

theorem valC0_val {sp : Spec} (hsp : SpecOk P sp) {Y : YS} {op : Op} {ρ : Operand → PV} {h : List PO} {v : PV} {W : Wr} {f : Foot} (hv : valC0 P sp op ρ h = some (v, W, f)) : OpVal0 P Y op ρ (getL h) h.length v W f := by
  have plain : ∀ {op : Op} {f' : Foot}, f' = footQ op ρ h.length → (pop P op ρ (getL h) h.length).map (fun r => (r.1, r.2, f')) = some (v, W, f) → OpVal0 P Y op ρ (getL h) h.length v W f := by
    intro op f' hf hv
    simp only [Option.map_eq_some_iff] at hv
    obtain ⟨r, hr, he⟩ := hv
    obtain ⟨r1, r2⟩ := r
    simp only [Prod.mk.injEq] at he
    obtain ⟨rfl, rfl, rfl⟩ := he
    exact .inl (.inl ⟨hr, hf⟩)
  have plainM : ∀ {op : Op} {f' : Foot}, f' = footO op ρ h.length → (popM P op ρ (getL h) h.length).map (fun r => (r.1, r.2, f')) = some (v, W, f) → OpVal0 P Y op ρ (getL h) h.length v W f := by
    intro op f' hf hv
    simp only [Option.map_eq_some_iff] at hv
    obtain ⟨r, hr, he⟩ := hv
    obtain ⟨r1, r2⟩ := r
    simp only [Prod.mk.injEq] at he
    obtain ⟨rfl, rfl, rfl⟩ := he
    exact .inl (.inr ⟨hr, hf⟩)
  unfold valC0 at hv
  split at hv
  · split at hv
    · exact plainM rfl hv
    · exact plain rfl hv
  · exact .inr (.inr ⟨_, rfl, .inl (callC_val hsp hv)⟩)
  · split at hv
    · simp only [Option.map_eq_some_iff] at hv
      obtain ⟨r, hr, he⟩ := hv
      obtain ⟨r1, r2, r3⟩ := r
      simp only [Prod.mk.injEq] at he
      obtain ⟨rfl, rfl, rfl⟩ := he
      exact .inr (.inl ⟨_, hr, rfl⟩)
    · exact plain rfl hv
  · split at hv
    · exact plainM rfl hv
    · exact plain rfl hv
  · exact plain rfl hv
theorem valC_val {sp : Spec} (hsp : SpecOk P sp) {Y : YS} {op : Op} {ρ : Operand → PV} {h : List PO} {v : PV} {W : Wr} {f : Foot} (hv : valC P sp op ρ h = some (v, W, f)) : ∃ rid, OpVal P Y op ρ (getL h) rid v W f := by
  unfold valC at hv
  split at hv
  · exact ⟨_, .inl (valC0_val hsp hv)⟩
  · rename_i id l _
    split at hv
    · rename_i Wf hw
      split at hv
      · rename_i hcl
        simp only [Option.map_eq_some_iff] at hv
        obtain ⟨r, hr, he⟩ := hv
        obtain ⟨r1, r2, r3⟩ := r
        simp only [Prod.mk.injEq] at he
        obtain ⟨rfl, rfl, rfl⟩ := he
        have := valC0_val (Y := Y) hsp hr
        rw [getL_wr] at this
        exact ⟨_, .inr ⟨id :: l, Wf, r2, r3, hcl, hw, this, rfl, rfl⟩⟩
      · cases hv
    · cases hv

end Go.Pm
