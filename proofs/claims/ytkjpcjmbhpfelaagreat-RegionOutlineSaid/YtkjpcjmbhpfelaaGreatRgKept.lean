/- Own rows beside others of other types; rows of marks. -/
import Derived.Test.YtkjpcjmbhpfelaaGreatRgBands
set_option linter.unusedVariables false
set_option linter.unusedSimpArgs false
namespace Go.Proofs.YtkjpcjmbhpfelaaGreat
open Go.RowKit Go.Par Go.Reg
section
variable {P : Program} {α β : Type} {E : EL P α} {F : EL P β}
/-- an own row abides the growing of a row of another type -/
theorem own_kept {w w' : World} {B B2 : Nat} {v v2 : Value} {l : List α} {ss : List β} (h : E.Own w B v l) (k : F.Own w B2 v2 ss) (ht : E.t ≠ F.t) (hg : w.grownBy w' v2.ownBlock) : E.Own w' B v l := by
  refine World.ownsRow.kept h hg ?_
  cases hv : v.ownBlock with
  | none => exact .inl rfl
  | some g =>
    refine .inr fun e => ?_
    obtain ⟨_, c1, h1⟩ := ownBlock_cells h hv.symm
    obtain ⟨_, c2, h2⟩ := ownBlock_cells k e
    rw [h1] at h2
    injection h2 with h2
    injection h2 with _ h2
    exact ht h2
/-- and the setting of a cell in a block of another type -/
theorem own_set {w : World} {B g i : Nat} {u : Value} {v : Value} {l : List α} {t : TypeId} {cs : Array Value} (h : E.Own w B v l) (hb : Box w g t cs) (ht : t ≠ E.t) : E.Own (w.setCell ⟨g, i, none⟩ u) B v l := by
  refine ⟨h.1, ?_⟩
  rcases h.2 with ⟨e, h0⟩ | ⟨g', cap, cur, e, hb', hh, rest⟩
  · exact .inl ⟨e, h0⟩
  · refine .inr ⟨g', cap, cur, e, hb', ?_, rest⟩
    have hbx : Box w g' E.t cur := hh
    exact hbx.far (p := ⟨g, i, none⟩) (fun e => by
      subst e
      have := hb.symm.trans hbx
      simp only [Option.some.injEq, Obj.cells.injEq] at this
      exact ht this.2.1) u
end
def boolE : EL Tryz.prog Bool where
  enc := fun b => [.bool b]
  size := 1
  t := 4
  st := 46
  zero := .bool false
  bytes := 1
  len := fun _ => rfl
  one := fun x v hv => by simp at hv; rcases hv with rfl; rfl
  pos := by decide
  und := Tryz.underlying46
  info := by kernel_rfl
  zsize := rfl
  small := by decide
theorem bool_zeros {cs : Array Value} {N : Nat} (h : cs = madeCells boolE.zero.cells (N * 1)) : ∀ (j : Nat) (v : Value), (boolE.cells (List.replicate N false))[j]? = some v → cs[j]? = some v := fun j v hv => by
  obtain ⟨i, o, x, hx, hv2, rfl, ho⟩ := boolE.cells_at' hv
  have ho1 : o < 1 := ho
  have hi := (List.getElem?_eq_some_iff.1 hx).1
  rw [List.length_replicate] at hi
  rw [List.getElem?_replicate, if_pos hi] at hx
  injection hx with hx
  subst hx
  have e1 : boolE.size = 1 := rfl
  have hz : boolE.zero.cells = #[.bool false] := rfl
  have h0 : o = 0 := by omega
  subst h0
  have hve : v = .bool false := by simpa [boolE] using hv2.symm
  subst hve
  rw [h, e1, hz, Nat.mul_one, Nat.mul_one, Nat.add_zero]
  simp [madeCells, hi, Nat.mod_one]
theorem _root_.Go.Par.EL.make {P : Program} {α : Type} (E : EL P α) (c n : Nat) (hn : n ≤ c) (hc : c ≤ 1000000000) :
    ∃ cs : Array Value, cs = madeCells E.zero.cells (c * E.size) ∧ cs.size = c * E.size ∧ ∀ W, (Instr.makeSlice E.st (.int .i64 (n : Int)) (.int .i64 (c : Int))).run P W = .ok (.slice (some ⟨W.heap.size, 0, none⟩) n c) (W.alloc (.cells cs E.t)) := by
  obtain ⟨i0, hi, hz0, hz1, hz2⟩ := info_parts E.info
  have hb : (i0.bytes : Int) * (c : Int) ≤ 281474976710656 := by
    have := Nat.mul_le_mul E.small hc
    rw [← hz2] at this
    have e : ((i0.bytes * c : Nat) : Int) = (i0.bytes : Int) * (c : Int) := Int.natCast_mul _ _
    omega
  refine ⟨_, rfl, by rw [size_madeCells], fun W => ?_⟩
  have := run_make (P := P) W E.st E.t i0 E.zero E.und hi hz0 .i64 .i64 n c (by omega) (by omega) hb (by omega)
  rw [Int.toNat_natCast, Int.toNat_natCast, hz1] at this
  exact this
end Go.Proofs.YtkjpcjmbhpfelaaGreat
