/- Maps whose elements are rows of the call's own. No program stands here. -/
import Derived.Test.YtkjpcjmbhpfelaaGreatZA
import Derived.WideKeyEntry
set_option linter.unusedVariables false
set_option linter.unusedSimpArgs false
namespace Go.Par
open Go.RowKit Go.Maps Go.MapKept Go.ChangeMaps Go.WideElems

abbrev tok (v : Value) : DataW Value := .held v
def rawR (v : Value) : Option (DataW Value × List MemPlace) := some (tok v, [])
def upd {ι β : Type} [DecidableEq ι] (f : ι → β) (i : ι) (x : β) : ι → β := fun j => if j = i then x else f j
theorem upd_same {ι β : Type} [DecidableEq ι] (f : ι → β) (i : ι) (x : β) : upd f i x i = x := if_pos rfl
theorem upd_other {ι β : Type} [DecidableEq ι] (f : ι → β) {i j : ι} (x : β) (h : j ≠ i) : upd f i x j = f j := if_neg h
abbrev nilV : Value := .slice none 0 0
section
variable {P : Program} {k : TypeId} {κ : Type} {kv : κ → Value} {w w' : World} {b n : Nat} {val : κ → Value}
/-- block b is a map that holds val y at the key y, nil where there is none -/
def MapVal (P : Program) (k : TypeId) {κ : Type} (kv : κ → Value) (w : World) (b n : Nat) (val : κ → Value) : Prop :=
  ∃ D, w.ownsMap P k rawR b n D ∧ ∀ y l, keyOf P k (kv y) = some l → D.atKey l (tok nilV) = tok (val y)
theorem MapVal.made (w : World) : MapVal P k kv (w.alloc (.map #[] 0)) w.heap.size 0 fun _ => nilV :=
  ⟨_, World.ownsMap_made w P k rawR, fun y l _ => rfl⟩
theorem MapVal.kept {row : Option Nat} (h : MapVal P k kv w b n val) (hg : w.grownBy w' row) (hne : some b ≠ row) : MapVal P k kv w' b n val := by
  obtain ⟨D, h1, h2⟩ := h
  exact ⟨D, h1.kept hg hne, h2⟩
theorem MapVal.ext (h : MapVal P k kv w b n val) (he : Ext w w') : MapVal P k kv w' b n val := h.kept he.grown0 (by simp)
theorem MapVal.lt (h : MapVal P k kv w b n val) : b < w.heap.size := by
  obtain ⟨D, h1, _⟩ := h; exact h1.lt
theorem MapVal.notCells {t : TypeId} {cs : Array Value} (h : MapVal P k kv w b n val) (hb : Box w b t cs) : False := by
  obtain ⟨D, ⟨es, cl, h1, _⟩, _⟩ := h
  rw [show w.heap[b]? = some _ from hb] at h1
  cases h1
theorem MapVal.look {t e : TypeId} {y : κ} {l : Lit} (h : MapVal P k kv w b n val) (K : Keyed P k) (ht : P.underlying t = some (.map k e)) (hz : (zeroValue e).run P w = .ok nilV w) (hk : keyOf P k (kv y) = some l) :
    (Instr.lookup t (.map (some b)) (kv y) false).run P w = .ok (val y) w := by
  obtain ⟨D, h1, h2⟩ := h
  obtain ⟨v, ps, r1, r2⟩ := h1.lookup K ht hz (zd := tok nilV) (zp := []) rfl hk
  rw [h2 y l hk] at r2
  unfold rawR at r2
  simp only [Option.some.injEq, Prod.mk.injEq, DataW.held.injEq] at r2
  rw [r1, r2.1]
theorem MapVal.update [DecidableEq κ] {t e : TypeId} {y : κ} {l : Lit} (hi : ∀ a c, kv a = kv c → a = c) (h : MapVal P k kv w b n val) (K : Keyed P k) (ht : P.underlying t = some (.map k e)) (hn : n < maxLen) (hk : keyOf P k (kv y) = some l) (v : Value) :
    ∃ w', (Instr.mapUpdate t (.map (some b)) (kv y) v).run P w = .ok () w' ∧ MapVal P k kv w' b (n + 1) (upd val y v) ∧ w.grownBy w' (some b) := by
  obtain ⟨D, h1, h2⟩ := h
  obtain ⟨w', r1, r2, r3⟩ := h1.update K ht hn hk (val := v) (d := tok v) (ps := []) rfl
  refine ⟨w', r1, ⟨_, r2, fun y' l' hk' => ?_⟩, r3⟩
  have hD : IsMap D := by obtain ⟨es, cl, _, _, _, e⟩ := h1; exact ⟨_, e⟩
  by_cases e : y' = y
  · subst e
    rw [hk] at hk'
    injection hk' with hk'
    subst hk'
    rw [upd_same, atKey_put_same hD (K.key hk)]
  · rw [upd_other _ _ e, atKey_put_other (fun e1 => e (hi _ _ (K.inj (by rw [← e1]; exact hk') hk))), h2 y' l' hk']
theorem one_of_nodup {α β : Type} {f : α → β} : ∀ {l : List α}, (l.map f).Nodup → ∀ a ∈ l, ∀ c ∈ l, f a = f c → a = c := by
  intro l
  induction l with
  | nil => intro _ a ha; cases ha
  | cons x l ih =>
    intro h a ha0 c hc0 e
    rw [List.map_cons] at h
    obtain ⟨h1, h2⟩ := List.nodup_cons.1 h
    rcases List.mem_cons.1 ha0 with rfl | ha <;> rcases List.mem_cons.1 hc0 with rfl | hc
    · rfl
    · exact absurd (show f a ∈ l.map f from List.mem_map.2 ⟨c, hc, e.symm⟩) h1
    · exact absurd (show f c ∈ l.map f from List.mem_map.2 ⟨a, ha, e⟩) h1
    · exact ih h2 a ha c hc e
end
section
variable {P : Program} {α ι : Type} {E : EL P α} {w w' : World} {base : Nat} {val : ι → Value} {F : ι → List α}
/-- a family of rows of the call's own, no two of which lie in one block -/
structure Fam (E : EL P α) (w : World) (base : Nat) (val : ι → Value) (F : ι → List α) : Prop where
  own : ∀ i, E.Own w base (val i) (F i)
  apart : ∀ i j, i ≠ j → (val i).ownBlock = none ∨ (val i).ownBlock ≠ (val j).ownBlock
theorem Fam.nil (E : EL P α) (w : World) (base : Nat) : Fam E w base (fun _ : ι => nilV) fun _ => [] := ⟨fun _ => EL.Own.nil _ _, fun _ _ _ => .inl rfl⟩
theorem Fam.kept {row : Option Nat} (h : Fam E w base val F) (hg : w.grownBy w' row) (hne : ∀ i, (val i).ownBlock = none ∨ (val i).ownBlock ≠ row) : Fam E w' base val F := ⟨fun i => World.ownsRow.kept (h.own i) hg (hne i), h.apart⟩
theorem Fam.ext (h : Fam E w base val F) (he : Ext w w') : Fam E w' base val F := ⟨fun i => (h.own i).ext he, h.apart⟩
theorem own_not_map {v : Value} {l : List α} {k : TypeId} {κ : Type} {kv : κ → Value} {b n : Nat} {mv : κ → Value} (h : E.Own w base v l) (hm : MapVal P k kv w b n mv) : v.ownBlock = none ∨ v.ownBlock ≠ some b := by
  refine .inr fun e => ?_
  obtain ⟨_, cur, hc⟩ := ownBlock_cells h e.symm
  exact hm.notCells hc
theorem Fam.map {k : TypeId} {κ : Type} {kv : κ → Value} {b n : Nat} {mv : κ → Value} (h : Fam E w base val F) (hm : MapVal P k kv w b n mv) (hg : w.grownBy w' (some b)) : Fam E w' base val F :=
  h.kept hg fun i => own_not_map (h.own i) hm
theorem Fam.set [DecidableEq ι] {i : ι} {v' : Value} {l' : List α} (h : Fam E w base val F) (hg : w.grownBy w' (val i).ownBlock) (ho : E.Own w' base v' l') (hl : v' = val i ∨ v'.ownBlock = (val i).ownBlock ∨ v'.ownBlock = some w.heap.size) :
    Fam E w' base (upd val i v') (upd F i l') := by
  have hl' : v'.ownBlock = (val i).ownBlock ∨ v'.ownBlock = some w.heap.size := hl.elim (fun e => .inl (by rw [e])) id
  have key : ∀ j, j ≠ i → (val j).ownBlock = none ∨ (val j).ownBlock ≠ v'.ownBlock := fun j hj => by
    rcases hl' with e | e
    · rw [e]; exact h.apart j i hj
    · rcases (h.own j).block with e' | ⟨g, e', _⟩
      · exact .inl e'
      · have := (World.ownsRow.lt (h.own j) g e').2
        refine .inr fun e2 => ?_
        rw [e', e] at e2
        injection e2 with e2
        omega
  refine ⟨fun j => ?_, fun j m hjm => ?_⟩
  · by_cases e : j = i
    · subst e; rw [upd_same, upd_same]; exact ho
    · rw [upd_other _ _ e, upd_other _ _ e]; exact World.ownsRow.kept (h.own j) hg (h.apart j i e)
  · by_cases e : j = i
    · subst e
      rw [upd_same, upd_other _ _ (fun e => hjm e.symm)]
      rcases key m (fun e => hjm e.symm) with e1 | e1
      · rw [e1]
        cases hv : v'.ownBlock with
        | none => exact .inl rfl
        | some g => exact .inr (fun e => by cases e)
      · exact .inr (fun e => e1 e.symm)
    · rw [upd_other _ _ e]
      by_cases e2 : m = i
      · subst e2; rw [upd_same]; exact key j e
      · rw [upd_other _ _ e2]; exact h.apart j m hjm
end
end Go.Par
