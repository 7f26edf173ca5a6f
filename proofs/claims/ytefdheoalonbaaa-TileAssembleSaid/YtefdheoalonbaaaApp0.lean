/- The first append to a row made empty, in a region that draws its order. No program stands here. -/
import Derived.Test.YtefdheoalonbaaaRowG
set_option linter.unusedVariables false
set_option linter.unusedSimpArgs false
namespace Go.Par
open Go.RowKit
section
variable {P : Program} {α : Type} {E : EL P α}
theorem EL.app0 {w : World} {B b : Nat} {l : List α} {sv : Value} (ty : TypeId) (hm : E.Row w sv l) (hb : l.length ≤ 1000000000) (hB : B ≤ w.heap.size) (hbb : B ≤ b) (hbx : Box w b E.t #[]) :
    ∃ v' w', (Builtin.append_ #[E.st, E.st] ty #[.slice (some ⟨b, 0, none⟩) 0 0, sv]).run P w = .ok v' w' ∧ E.Own w' B v' l ∧ Ext w w' := by
  obtain ⟨i0, hi, hz0, hz1, hz2⟩ := info_parts E.info
  by_cases h0 : l.length = 0
  · have e : l = [] := List.eq_nil_of_length_eq_zero h0
    subst e
    obtain ⟨A, c, rfl, _⟩ := hm
    refine ⟨.slice (some ⟨b, 0, none⟩) 0 0, w, ?_, ⟨by simp [EL.cells], .inr ⟨b, 0, #[], rfl, hbb, hbx, Nat.le_refl _, by decide, by simp, by simp [EL.cells]⟩⟩, Ext.refl w⟩
    cases A <;> simp [Builtin.append_, run_underlying E.und, sizeOf, typeInfo, hi, Builtin.lenOf, Builtin.firstCells, storeCells, loadCells, loadCellsFrom]
  · obtain ⟨h1, h2, ⟨_, h3⟩ | ⟨ad, c, rfl, h3⟩⟩ := hm.src
    · exact absurd h3 h0
    · have hbytes : l.length * E.bytes ≤ 140737488355328 := Nat.le_trans (Nat.mul_le_mul hb E.small) (by decide)
      have hr := run_append_grow (P := P) (w := w) E.st ty E.t i0 _ E.und hi hz0 ⟨b, 0, none⟩ 0 0 [] (by simp) (fun j v h => by simp at h) ad l.length c (E.cells l) (by rw [hz1]; exact h1) h3 (by omega) (by omega) (growslice_fits (by omega) (by rw [hz2, Nat.zero_add]; exact hbytes))
      refine ⟨_, _, hr, ?_, (Ext.drew w).trans (Ext.alloc _ _)⟩
      have hge := grownCap_ge w (0 + l.length) 0 E.t
      have hcm := grownCap_le_maxLen w (0 + l.length) 0 E.t (by unfold maxLen; omega)
      generalize grownCap w (0 + l.length) 0 E.t = G at *
      refine ⟨E.cells_length l, .inr ⟨w.heap.size, G, _, by rw [Nat.zero_add], hB, heap_alloc_new w.drew _, by omega, hcm, ?_, ?_⟩⟩
      · simp only [Array.size_append, List.size_toArray, size_zeroCells, EL.cells_length, List.length_nil, E.zsize]
        rw [Nat.zero_add, ← Nat.add_mul]
        congr 1
        omega
      · rw [← E.cells_length l]
        simp only [Array.toList_append, List.nil_append, List.append_assoc]
        simp
theorem relStep_appG {ops : Array Oper} {o : Oper} {a : Act} {w1 : World} {R : VP} (hw : Region.wanted o (yielded ops a.tmps) = true) (s x : Operand) (t : TypeId)
    (ho : o.op = .call { callee := .builtin .append, args := #[s, x], argTypes := #[t, t] }) {v sv : Value} (hs : a.eval s = v) (hx : a.eval x = sv) {v' : Value} {w' : World}
    (hr : (Builtin.append_ #[t, t] o.type #[v, sv]).run P w1 = .ok v' w') (hE : Ext w1 w') (hR : R v' w') : relStep P ops o (.rel R false) w1 a := by
  rw [relStep_def, if_pos hw]
  unfold execOp
  simp only [ho, resolve, invoke, builtin, Sem.run_bind, Sem.run_pure, Result.andThen_ok, List.map_toArray, List.map_cons, List.map_nil, hs, hx, hr]
  exact ⟨hE, hR, fun h => by cases h⟩
end
end Go.Par
