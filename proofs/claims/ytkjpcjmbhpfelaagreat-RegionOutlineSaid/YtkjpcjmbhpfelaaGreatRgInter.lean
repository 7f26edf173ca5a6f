/- rect.Intersect and rect.Union, in the program and in the reference. -/
import Derived.Test.YtkjpcjmbhpfelaaGreatRect
set_option linter.unusedVariables false
set_option linter.unusedSimpArgs false
namespace Go.Proofs.YtkjpcjmbhpfelaaGreat
open Go.RowKit Go.Par Go.Reg

theorem canon_self {r : R4} (h : rectEmptyS r = false) : rectCanonS r = r := by unfold rectCanonS; rw [h]; rfl
theorem _root_.Go.Par.Box.far4 {w : World} {b c : Nat} {t : TypeId} {cs : Array Value} (h : Box w b t cs) (hc : b ≠ c) (i j k l : Nat) (u0 u1 u2 u3 : Value) : Box ((((w.setCell ⟨c, i, none⟩ u0).setCell ⟨c, j, none⟩ u1).setCell ⟨c, k, none⟩ u2).setCell ⟨c, l, none⟩ u3) b t cs :=
  (((h.far (p := ⟨c, i, none⟩) hc u0).far (p := ⟨c, j, none⟩) hc u1).far (p := ⟨c, k, none⟩) hc u2).far (p := ⟨c, l, none⟩) hc u3
/-- the common part -/
def interS (r s : R4) : R4 := rectCanonS (max (rectCanonS r).1 (rectCanonS s).1, max (rectCanonS r).2.1 (rectCanonS s).2.1, min (rectCanonS r).2.2.1 (rectCanonS s).2.2.1, min (rectCanonS r).2.2.2 (rectCanonS s).2.2.2)
theorem inter_empty {r s : R4} (h : rectEmptyS r = true ∨ rectEmptyS s = true) : interS r s = (0, 0, 0, 0) := by
  obtain ⟨h1, h2, h3, h4, h5, h6⟩ := canon_in r
  obtain ⟨k1, k2, k3, k4, k5, k6⟩ := canon_in s
  unfold interS
  have hz : ∀ q : R4, rectEmptyS q = true → rectCanonS q = (0, 0, 0, 0) := fun q hq => by unfold rectCanonS; rw [hq]; rfl
  have hm : ∀ q : R4, q.2.2.1 ≤ q.1 → rectEmptyS q = true := fun q hq => by unfold rectEmptyS; rw [decide_eq_true hq]; simp
  apply hz
  apply hm
  rcases h with h | h
  · have e := hz r h
    have e1 : (rectCanonS r).1 = 0 := by rw [e]
    have e3 : (rectCanonS r).2.2.1 = 0 := by rw [e]
    show min _ _ ≤ max _ _
    omega
  · have e := hz s h
    have e1 : (rectCanonS s).1 = 0 := by rw [e]
    have e3 : (rectCanonS s).2.2.1 = 0 := by rw [e]
    show min _ _ ≤ max _ _
    omega
/-- the least rectangle round both -/
def unionS (a b : R4) : R4 := if rectEmptyS a then rectCanonS b else if rectEmptyS b then a else (min a.1 b.1, min a.2.1 b.2.1, max a.2.2.1 b.2.2.1, max a.2.2.2 b.2.2.2)
end Go.Proofs.YtkjpcjmbhpfelaaGreat