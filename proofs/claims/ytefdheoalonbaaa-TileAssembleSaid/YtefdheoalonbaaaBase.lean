/- Words on memory: a block known whole, what a new block and a store turn. No program stands here. -/
import Derived.Test.YtefdheoalonbaaaPar
import Derived.WalkSpells
import Derived.WalkLawsBesides
import Derived.BigGuardPart
import Derived.Lib.Hide
set_option linter.unusedVariables false
set_option linter.unusedSimpArgs false
namespace Go.Par
open Go.RowKit

theorem ret_eq {u v : Value} (h : u = v) : Ending.returned u = .returned v := by rw [h]

/-! ## cells behind a new block, behind a store -/
theorem heap_alloc_push (w : World) (o : Obj) : (w.alloc o).heap = w.heap.push o := rfl
theorem cell_alloc_ite (w : World) (cs : Array Value) (t : TypeId) (fr : Nat × Nat) (b i : Nat) :
    (w.alloc (.cells cs t fr)).cell? ⟨b, i, none⟩ = if b = w.heap.size then cs[i]? else w.cell? ⟨b, i, none⟩ := by
  unfold World.cell?
  rw [heap_alloc_push]
  by_cases h : b = w.heap.size
  · subst h
    simp
  · simp only [Array.getElem?_push, if_neg h]
theorem frozen_alloc_ite (w : World) (cs : Array Value) (t : TypeId) (b i : Nat) :
    (w.alloc (.cells cs t (0, 0))).frozen? ⟨b, i, none⟩ = if b = w.heap.size then false else w.frozen? ⟨b, i, none⟩ := by
  unfold World.frozen?
  rw [heap_alloc_push]
  by_cases h : b = w.heap.size
  · subst h
    simp
  · simp only [Array.getElem?_push, if_neg h]
theorem cell_set_ite (w : World) (b i c j : Nat) (v : Value) :
    (w.setCell ⟨b, i, none⟩ v).cell? ⟨c, j, none⟩ = if b = c ∧ i = j then (w.cell? ⟨c, j, none⟩).map (fun _ => v) else w.cell? ⟨c, j, none⟩ := by
  by_cases h : b = c ∧ i = j
  · obtain ⟨rfl, rfl⟩ := h
    rw [if_pos ⟨rfl, rfl⟩]
    cases hc : w.cell? ⟨b, i, none⟩ with
    | none =>
      simp only [World.cell?, World.setCell, Array.getElem?_modify] at hc ⊢
      cases ho : w.heap[b]? with
      | none => simp [ho]
      | some o =>
        rw [ho] at hc
        cases o <;> simp_all
    | some u => exact World.cell?_setCell_same w _ v hc
  · rw [if_neg h]
    exact World.cell?_setCell_other w _ _ v (fun e => h (by injection e with e1 e2; exact ⟨e1, e2⟩))

/-! ## a block known whole -/
def Box (w : World) (b : Nat) (t : TypeId) (cs : Array Value) : Prop := w.heap[b]? = some (.cells cs t (0, 0))
section
variable {w w' : World} {b : Nat} {t : TypeId} {cs : Array Value}
theorem Box.lt (h : Box w b t cs) : b < w.heap.size := by
  rcases Nat.lt_or_ge b w.heap.size with hlt | hge
  · exact hlt
  · unfold Box at h; rw [Array.getElem?_eq_none hge] at h; cases h
theorem Box.cell (h : Box w b t cs) (i : Nat) : w.cell? ⟨b, i, none⟩ = cs[i]? := by
  unfold Box at h
  simp [World.cell?, h]
theorem Box.frozen (h : Box w b t cs) (i : Nat) : w.frozen? ⟨b, i, none⟩ = false := by
  unfold Box at h
  simp [World.frozen?, h]
theorem Box.ext (h : Box w b t cs) (he : Ext w w') : Box w' b t cs := (Below.block he b h.lt).trans h
theorem Box.new (w : World) (t : TypeId) (cs : Array Value) : Box (w.alloc (.cells cs t)) w.heap.size t cs := by unfold Box; rw [heap_alloc_push]; simp
theorem Box.newAt {w : World} {t : TypeId} {cs : Array Value} {b : Nat} (h : b = w.heap.size) : Box (w.alloc (.cells cs t)) b t cs := h ▸ Box.new w t cs
theorem Box.at1 {w : World} {t : TypeId} {cs : Array Value} {o : Obj} : Box ((w.alloc o).alloc (.cells cs t)) (w.heap.size + 1) t cs := Box.newAt (by simp)
theorem Box.at2 {w : World} {t : TypeId} {cs : Array Value} {o o' : Obj} : Box (((w.alloc o).alloc o').alloc (.cells cs t)) (w.heap.size + 1 + 1) t cs := Box.newAt (by simp)
theorem Box.at3 {w : World} {t : TypeId} {cs : Array Value} {o o' o'' : Obj} : Box ((((w.alloc o).alloc o').alloc o'').alloc (.cells cs t)) (w.heap.size + 1 + 1 + 1) t cs := Box.newAt (by simp)
theorem Box.alloc (h : Box w b t cs) (o : Obj) : Box (w.alloc o) b t cs := h.ext (Ext.alloc w o)
theorem Box.drew (h : Box w b t cs) : Box w.drew b t cs := h
theorem Box.set (h : Box w b t cs) (i : Nat) (u : Value) : Box (w.setCell ⟨b, i, none⟩ u) b t (cs.setIfInBounds i u) := by
  unfold Box at h ⊢
  simp [World.setCell, Array.getElem?_modify, h]
theorem Box.far (h : Box w b t cs) {p : Addr} (hp : b ≠ p.block) (u : Value) : Box (w.setCell p u) b t cs := (Below.heap_setCell w p u b hp).trans h
theorem Box.later (h : Box w b t cs) (z : Later w) : Box z.val b t cs := h.ext z.prop
theorem Box.lcell (h : Box w b t cs) (z : Later w) (i : Nat) : z.val.cell? ⟨b, i, none⟩ = cs[i]? := (h.later z).cell i
theorem Box.lfrozen (h : Box w b t cs) (z : Later w) (i : Nat) : z.val.frozen? ⟨b, i, none⟩ = false := (h.later z).frozen i
end
theorem size_set (w : World) (p : Addr) (u : Value) : (w.setCell p u).heap.size = w.heap.size := by simp [World.setCell]
theorem Ext.setNew {w w1 : World} (h : Ext w w1) {b : Nat} (hb : w.heap.size ≤ b) (i : Nat) (v : Value) : Ext w (w1.setCell ⟨b, i, none⟩ v) := Below.setCell h hb v

theorem wrap_add_one {k n : Nat} (h : k < n) (hn : n ≤ 17592186044416) : IntKind.i64.wrap ((k : Int) + 1) = (k : Int) + 1 := IntWalk.i64_in _ (by omega)
theorem tmod_cast (a n : Nat) : ((a : Int) + 1).tmod (n : Int) = (((a + 1) % n : Nat) : Int) := by
  have : ((a : Int) + 1) = ((a + 1 : Nat) : Int) := by omega
  rw [this]
  rfl
theorem emod_cast (a n : Nat) : ((a : Int) + 1) % (n : Int) = (((a + 1) % n : Nat) : Int) := by
  have : ((a : Int) + 1) = ((a + 1 : Nat) : Int) := by omega
  rw [this]
  rfl
/-- all that was there is as it was, but for block b -/
structure But (b : Nat) (w w' : World) : Prop where
  os : w'.os = w.os
  tape : w'.tape = w.tape
  output : w'.output = w.output
  size : w.heap.size ≤ w'.heap.size
  block : ∀ k, k < w.heap.size → k ≠ b → w'.heap[k]? = w.heap[k]?
theorem But.of_ext {b : Nat} {w w' : World} (h : Ext w w') : But b w w' := ⟨Below.os h, Below.tape h, Below.output h, Below.size h, fun k hk _ => Below.block h k hk⟩
theorem But.refl (b : Nat) (w : World) : But b w w := But.of_ext (Ext.refl w)
theorem But.trans {b : Nat} {u v w : World} (h : But b u v) (k : But b v w) : But b u w :=
  ⟨k.os.trans h.os, k.tape.trans h.tape, k.output.trans h.output, Nat.le_trans h.size k.size, fun i hi hne => (k.block i (Nat.lt_of_lt_of_le hi h.size) hne).trans (h.block i hi hne)⟩
theorem But.set {b : Nat} {u w : World} (h : But b u w) (i : Nat) (v : Value) : But b u (w.setCell ⟨b, i, none⟩ v) :=
  ⟨h.os, h.tape, h.output, by rw [size_set]; exact h.size, fun k hk hne => (Below.heap_setCell w ⟨b, i, none⟩ v k hne).trans (h.block k hk hne)⟩
theorem But.box {b c : Nat} {w w' : World} {t : TypeId} {cs : Array Value} (h : But b w w') (hB : Box w c t cs) (hne : c ≠ b) : Box w' c t cs := (h.block c hB.lt hne).trans hB
theorem But.cell {b : Nat} {w w' : World} (h : But b w w') {a : Addr} {v : Value} (hc : w.cell? a = some v) (hne : a.block ≠ b) : w'.cell? a = some v :=
  (World.cell?_of_block (h.block a.block (lt_of_cell hc) hne)).trans hc
/-- writes to a block made since u do not show in what u had -/
theorem Ext.but {b : Nat} {u w w' : World} (h : Ext u w) (k : But b w w') (hb : u.heap.size ≤ b) : Ext u w' :=
  ⟨k.os.trans h.os, k.tape.trans h.tape, k.output.trans h.output, Nat.le_trans h.size k.size, fun i hi => (k.block i (Nat.lt_of_lt_of_le hi h.size) (by omega)).trans (Below.block h i hi)⟩

/-! ## operations of a drawing region that make memory -/
/-- a pointer to a block made since w0 -/
def NewBox (w0 : World) (t : TypeId) (cs : Array Value) (v : Value) (w : World) : Prop := ∃ b, v = .pointer (some ⟨b, 0, none⟩) ∧ w0.heap.size ≤ b ∧ Box w b t cs
theorem NewBox.stable (w0 : World) (t : TypeId) (cs : Array Value) : Stable (NewBox w0 t cs) := fun _ _ _ ⟨b, e, hb, h⟩ he => ⟨b, e, hb, h.ext he⟩
/-- a slice over a block made since w0 -/
def NewRow (w0 : World) (t : TypeId) (n : Nat) (cs : Array Value) (v : Value) (w : World) : Prop := ∃ b, v = .slice (some ⟨b, 0, none⟩) n n ∧ w0.heap.size ≤ b ∧ Box w b t cs
theorem NewRow.stable (w0 : World) (t : TypeId) (n : Nat) (cs : Array Value) : Stable (NewRow w0 t n cs) := fun _ _ _ ⟨b, e, hb, h⟩ he => ⟨b, e, hb, h.ext he⟩
section
variable {P : Program} {ops : Array Oper} {bf : Array Nat} {w0 : World} {F : Act → World → Prop} {o : Oper} {os : List Oper} {k : Nat} {rels : List Rel} {a : Act}
theorem parW_new {d : Tmp} {t : TypeId} {cs : Array Value} (hd : o.dst = some d) (hc : clean ops o rels = true) (hw : Region.wanted o (yielded ops a.tmps) = true) (hsel : ∀ cs b, o.op ≠ .select cs b)
    (hx : ∀ w, (execOp a.eval o).run P w = .ok (.value (.pointer (some ⟨w.heap.size, 0, none⟩))) (w.alloc (.cells cs t)))
    (h : ParW P ops bf w0 F os (k + 1) (rels ++ [(k, d, NewBox w0 t cs, true)]) a) : ParW P ops bf w0 F (o :: os) k rels a := by
  refine .inr (.inr ⟨d, _, true, hd, NewBox.stable w0 t cs, fun w1 he => giv_of_clean hsel rels a hc ?_, h⟩)
  rw [relStep_def, if_pos hw, hx w1]
  exact ⟨Ext.alloc _ _, ⟨_, rfl, he.size, Box.new _ _ _⟩, fun _ => ⟨_, rfl, Nat.le_refl _, by rw [heap_alloc_push]; simp⟩⟩
theorem parW_newRow {d : Tmp} {t : TypeId} {n : Nat} {cs : Array Value} (hd : o.dst = some d) (hc : clean ops o rels = true) (hw : Region.wanted o (yielded ops a.tmps) = true) (hsel : ∀ cs b, o.op ≠ .select cs b)
    (hx : ∀ w, (execOp a.eval o).run P w = .ok (.value (.slice (some ⟨w.heap.size, 0, none⟩) n n)) (w.alloc (.cells cs t)))
    (h : ParW P ops bf w0 F os (k + 1) (rels ++ [(k, d, NewRow w0 t n cs, true)]) a) : ParW P ops bf w0 F (o :: os) k rels a := by
  refine .inr (.inr ⟨d, _, true, hd, NewRow.stable w0 t n cs, fun w1 he => giv_of_clean hsel rels a hc ?_, h⟩)
  rw [relStep_def, if_pos hw, hx w1]
  exact ⟨Ext.alloc _ _, ⟨_, rfl, he.size, Box.new _ _ _⟩, fun _ => ⟨_, rfl, Nat.le_refl _, by rw [heap_alloc_push]; simp⟩⟩
/-- a call that hands back a value of which R is known -/
theorem parW_rel {d : Tmp} {R : VP} (hd : o.dst = some d) (hR : Stable R) (hx : ∀ x : Later w0, Giv (fun j => (bf.getD k 0).testBit j = true) x.val (relStep P ops o (.rel R false) x.val) rels a)
    (h : ParW P ops bf w0 F os (k + 1) (rels ++ [(k, d, R, false)]) a) : ParW P ops bf w0 F (o :: os) k rels a :=
  .inr (.inr ⟨d, R, false, hd, hR, fun w1 he => hx ⟨w1, he⟩, h⟩)
/-- an operation with one value, looking at open slots -/
theorem parW_giv {c : Value} (hx : ∀ x : Later w0, Giv (fun j => (bf.getD k 0).testBit j = true) x.val (relStep P ops o (.val c) x.val) rels a)
    (h : ParW P ops bf w0 F os (k + 1) rels (a.put o.dst c)) : ParW P ops bf w0 F (o :: os) k rels a :=
  .inr (.inl ⟨c, fun w1 he => hx ⟨w1, he⟩, h⟩)
theorem parW_fin (h : ∀ x : Later w0, GivF x.val (fun a' => F a' x.val) rels [] a) : ParW P ops bf w0 F [] k rels a := fun w1 he => h ⟨w1, he⟩
end
attribute [go_sem] cell_alloc_ite frozen_alloc_ite cell_set_ite
end Go.Par
