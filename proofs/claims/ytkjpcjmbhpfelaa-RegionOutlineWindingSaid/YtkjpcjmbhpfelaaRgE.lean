/- Kinds of elements: numbers, rectangles, runs, bands. -/
import Derived.Test.YtkjpcjmbhpfelaaRgLaw
import Derived.BigRegion
set_option linter.unusedVariables false
set_option linter.unusedSimpArgs false
namespace Go.Par
open Go.RowKit
section
variable {P : Program} {α : Type} {E : EL P α}
theorem EL.rowOne {w : World} {b : Nat} {cs : Array Value} {x : α} (h : Box w b E.t cs) (hc : cs.toList = E.enc x) : E.Row w (.slice (some ⟨b, 0, none⟩) 1 1) [x] :=
  ⟨_, _, rfl, Nat.le_refl _, (by simp), EL.At.box h fun j v hv => by
    rw [EL.cells_cons, EL.cells_nil, List.append_nil, ← hc] at hv
    simpa using hv⟩
theorem EL.Own.cell {w : World} {B g n cap : Nat} {l : List α} (h : E.Own w B (.slice (some ⟨g, 0, none⟩) n cap) l) {i j : Nat} {x : α} {v : Value} (hi : l[i]? = some x) (hv : (E.enc x)[j]? = some v) : w.cell? ⟨g, i * E.size + j, none⟩ = some v := by
  obtain ⟨cur, hl, hb, hg, hcap, hm, hs, hc⟩ := h.opened
  rw [hg.cell]
  exact hc _ _ (E.cells_at hi hv)
theorem EL.Own.frozen {w : World} {B g n cap i : Nat} {l : List α} (h : E.Own w B (.slice (some ⟨g, 0, none⟩) n cap) l) : w.frozen? ⟨g, i, none⟩ = false := by
  obtain ⟨cur, hl, hb, hg, _⟩ := h.opened
  exact hg.frozen i
/-- one cell of one element written -/
theorem EL.Own.setAt {w : World} {B g n cap i j : Nat} {l : List α} (h : E.Own w B (.slice (some ⟨g, 0, none⟩) n cap) l) {x y : α} {v : Value} (hi : l[i]? = some x) (hj : j < E.size) (hy : E.enc y = (E.enc x).set j v) :
    E.Own (w.setCell ⟨g, i * E.size + j, none⟩ v) B (.slice (some ⟨g, 0, none⟩) n cap) (l.set i y) := by
  obtain ⟨cur, hl, hb, hg, hcap, hm, hs, hc⟩ := h.opened
  have hil := (List.getElem?_eq_some_iff.1 hi).1
  refine EL.Own.mk (by rw [List.length_set]; exact hl) hb (hg.set _ v) hcap hm (by rw [Array.size_setIfInBounds]; exact hs) fun k u hu => ?_
  obtain ⟨i', j', z, hz, hu', rfl, hj'⟩ := E.cells_at' hu
  have hlt : i * E.size + j < cur.size := by
    rw [hs]
    have : (i + 1) * E.size ≤ cap * E.size := Nat.mul_le_mul_right _ (by omega)
    rw [Nat.add_mul] at this
    omega
  rw [Array.getElem?_setIfInBounds]
  by_cases hii : i = i'
  · subst hii
    rw [List.getElem?_set_self hil] at hz
    injection hz with hz
    subst hz
    rw [hy] at hu'
    by_cases hjj : j = j'
    · subst hjj
      rw [List.getElem?_set_self (by rw [E.len]; exact hj)] at hu'
      rw [if_pos rfl, if_pos hlt]
      exact hu'
    · rw [List.getElem?_set_ne hjj] at hu'
      rw [if_neg (by omega)]
      exact hc _ _ (E.cells_at hi hu')
  · rw [List.getElem?_set_ne hii] at hz
    rw [if_neg fun e => ?_]
    · exact hc _ _ (E.cells_at hz hu')
    · rcases Nat.lt_or_gt_of_ne hii with k | k
      · have : (i + 1) * E.size ≤ i' * E.size := Nat.mul_le_mul_right _ k
        rw [Nat.add_mul] at this
        omega
      · have : (i' + 1) * E.size ≤ i * E.size := Nat.mul_le_mul_right _ k
        rw [Nat.add_mul] at this
        omega
theorem EL.At.cellAt {w : World} {b o : Nat} {l : List α} (h : E.At w (some ⟨b, o, none⟩) l) {i j : Nat} {x : α} {v : Value} (hi : l[i]? = some x) (hv : (E.enc x)[j]? = some v) : w.cell? ⟨b, o + i * E.size + j, none⟩ = some v := by
  obtain ⟨b', o', e, hc⟩ := h (by rintro rfl; simp at hi)
  injection e with e; injection e with e1 e2; subst e1 e2
  exact hc i x hi j v hv
theorem EL.At.addr {w : World} {A : Option Addr} {l : List α} (h : E.At w A l) {i : Nat} {x : α} (hi : l[i]? = some x) : ∃ b o, A = some ⟨b, o, none⟩ := by
  obtain ⟨b, o, e, _⟩ := h (by rintro rfl; simp at hi)
  exact ⟨b, o, e⟩
theorem ownBlock_cells {W : World} {base k : Nat} {v : Value} {l : List α} (h : E.Own W base v l) (e : some k = v.ownBlock) : base ≤ k ∧ ∃ cur, W.heap[k]? = some (.cells cur E.t (0, 0)) := by
  rcases h.2 with ⟨e', _⟩ | ⟨g, cap, cur, e', hb, hg, _⟩
  · rw [e'] at e; cases e
  · rw [e'] at e
    injection e with e
    subst e
    exact ⟨hb, cur, hg⟩
theorem own_ne_typeG {w : World} {B g : Nat} {v : Value} {l : List α} {t : TypeId} {cs : Array Value} (h : E.Own w B v l) (hb : Box w g t cs) (ht : t ≠ E.t) : v.ownBlock ≠ some g := fun e => by
  obtain ⟨_, cur, hc⟩ := ownBlock_cells h e.symm
  have := hb.symm.trans hc
  simp only [Option.some.injEq, Obj.cells.injEq] at this
  exact ht this.2.1
theorem own_ne_low {w : World} {B g : Nat} {v : Value} {l : List α} (h : E.Own w B v l) (hb : g < B) : v.ownBlock ≠ some g := fun e => by
  have := (World.ownsRow.lt h g e).1
  omega
end
theorem Ext.drewN {w w1 : World} (h : Ext w w1) (n : Nat) : Ext w (w1.drewN n) :=
  h.trans ⟨rfl, rfl, rfl, Nat.le_refl _, fun _ _ => rfl⟩
theorem take_snocG {α : Type} {l : List α} {k : Nat} {x : α} (h : l[k]? = some x) : l.take (k + 1) = l.take k ++ [x] := by
  rw [List.take_add_one, h]; rfl
end Go.Par
namespace Go.Proofs.Ytkjpcjmbhpfelaa
open Go.RowKit Go.Par Go.Reg

def intE : EL Try.prog Int where
  enc := fun r => [.int .i64 r]
  size := 1
  t := 3
  st := 40
  zero := .int .i64 0
  bytes := 8
  len := fun _ => rfl
  one := fun x v hv => by simp at hv; rcases hv with rfl; rfl
  pos := by decide
  und := Try.underlying40
  info := by kernel_rfl
  zsize := rfl
  small := by decide
def rectE : EL Try.prog R4 where
  enc := fun r => [.int .i64 r.1, .int .i64 r.2.1, .int .i64 r.2.2.1, .int .i64 r.2.2.2]
  size := 4
  t := 29
  st := 22
  zero := .agg #[.int .i64 0, .int .i64 0, .int .i64 0, .int .i64 0]
  bytes := 32
  len := fun _ => rfl
  one := fun x v hv => by simp at hv; rcases hv with rfl | rfl | rfl | rfl <;> rfl
  pos := by decide
  und := Try.underlying22
  info := by kernel_rfl
  zsize := rfl
  small := by decide
def runE : EL Try.prog Run where
  enc := fun r => [.int .i64 r.1, .int .i64 r.2]
  size := 2
  t := 93
  st := 86
  zero := .agg #[.int .i64 0, .int .i64 0]
  bytes := 16
  len := fun _ => rfl
  one := fun x v hv => by simp at hv; rcases hv with rfl | rfl <;> rfl
  pos := by decide
  und := Try.underlying86
  info := by kernel_rfl
  zsize := rfl
  small := by decide
/-- how a band lies: from, to, its runs' slice -/
abbrev BnS := Int × Int × Option Addr × Nat × Nat
def bandE : EL Try.prog BnS where
  enc := fun r => [.int .i64 r.1, .int .i64 r.2.1, .slice r.2.2.1 r.2.2.2.1 r.2.2.2.2]
  size := 3
  t := 90
  st := 58
  zero := .agg #[.int .i64 0, .int .i64 0, .slice none 0 0]
  bytes := 40
  len := fun _ => rfl
  one := fun x v hv => by simp at hv; rcases hv with rfl | rfl | rfl <;> rfl
  pos := by decide
  und := Try.underlying58
  info := by kernel_rfl
  zsize := rfl
  small := by decide
theorem int_cell {w : World} {b o : Nat} {l : List Int} (h : intE.At w (some ⟨b, o, none⟩) l) {k : Nat} {x : Int} (hk : l[k]? = some x) : w.cell? ⟨b, o + k, none⟩ = some (.int .i64 x) := by
  have := h.cellAt (j := 0) hk rfl
  simpa [intE] using this
theorem rect_cell {w : World} {b o : Nat} {l : List R4} (h : rectE.At w (some ⟨b, o, none⟩) l) {k : Nat} {r : R4} (hk : l[k]? = some r) :
    w.cell? ⟨b, o + k * 4, none⟩ = some (.int .i64 r.1) ∧ w.cell? ⟨b, o + k * 4 + 1, none⟩ = some (.int .i64 r.2.1) ∧ w.cell? ⟨b, o + k * 4 + 2, none⟩ = some (.int .i64 r.2.2.1) ∧ w.cell? ⟨b, o + k * 4 + 3, none⟩ = some (.int .i64 r.2.2.2) :=
  ⟨h.cellAt (j := 0) hk rfl, h.cellAt (j := 1) hk rfl, h.cellAt (j := 2) hk rfl, h.cellAt (j := 3) hk rfl⟩
theorem run_cell {w : World} {b o : Nat} {l : List Run} (h : runE.At w (some ⟨b, o, none⟩) l) {k : Nat} {r : Run} (hk : l[k]? = some r) :
    w.cell? ⟨b, o + k * 2, none⟩ = some (.int .i64 r.1) ∧ w.cell? ⟨b, o + k * 2 + 1, none⟩ = some (.int .i64 r.2) :=
  ⟨h.cellAt (j := 0) hk rfl, h.cellAt (j := 1) hk rfl⟩
theorem band_cell {w : World} {b o : Nat} {l : List BnS} (h : bandE.At w (some ⟨b, o, none⟩) l) {k : Nat} {r : BnS} (hk : l[k]? = some r) :
    w.cell? ⟨b, o + k * 3, none⟩ = some (.int .i64 r.1) ∧ w.cell? ⟨b, o + k * 3 + 1, none⟩ = some (.int .i64 r.2.1) ∧ w.cell? ⟨b, o + k * 3 + 2, none⟩ = some (.slice r.2.2.1 r.2.2.2.1 r.2.2.2.2) :=
  ⟨h.cellAt (j := 0) hk rfl, h.cellAt (j := 1) hk rfl, h.cellAt (j := 2) hk rfl⟩
end Go.Proofs.Ytkjpcjmbhpfelaa
