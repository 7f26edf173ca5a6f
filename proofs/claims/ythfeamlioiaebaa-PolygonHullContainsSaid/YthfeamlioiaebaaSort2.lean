/- polygon.compare for the sort. -/
import Derived.Test.YthfeamlioiaebaaSort
import Derived.Test.YthfeamlioiaebaaParD
set_option linter.unusedVariables false
set_option linter.unusedSimpArgs false
namespace Go.Proofs.Ythfeamlioiaebaa
open Go.RowKit Go.ParD
open Go.Par (Box ret_eq)

theorem setD {w w1 : World} (h : Ext w w1) {b : Nat} (hb : w.heap.size ≤ b) (i : Nat) (v : Value) : Ext w (w1.setCell ⟨b, i, none⟩ v) := h.set hb v
set_option maxHeartbeats 400000 in
theorem hold_d (x y : Int) (w : World) :
    Calls Try.prog 87 #[.agg #[.int .i64 x, .int .i64 y]] w fun e w' => e = .returned (.agg #[.int .i64 (heldS x), .int .i64 (heldS y)]) ∧ Ext w w' := by
  go_enter Try.func87, Try.ntmps87
  go_wp2_with fail
  apply wp_region_par' 9 (by kernel_rfl) (by kernel_rfl) rfl
  simp only [List.take_succ_cons, List.take_zero, List.drop_succ_cons, List.drop_zero]
  iterate 9
    refine parW_step rfl (fun K hK => ?_)
    apply Exists.intro
    refine ⟨fun z => ?_, ?_⟩
    focus
      go_simp
      first
        | rfl
        | exact calls_same (held_any _ _)
    go_simp
    refine hK _ ?_
    clear hK K
  refine parW_end (fun z => ?_)
  go_wp2
  exact bodyPost_ret (v := .agg #[.int .i64 (heldS x), .int .i64 (heldS y)]) (by simp [results, Try.results87, go_sem, heldS]) rfl ⟨rfl, ((((Ext.alloc _ _).trans (Ext.alloc _ _)).trans (Ext.drew _)).later z |>.set (by simp) _).set (by simp) _⟩
set_option maxHeartbeats 400000 in
theorem Less_d (x y u v : Int) (w : World) :
    Calls Try.prog 95 #[.agg #[.int .i64 x, .int .i64 y], .agg #[.int .i64 u, .int .i64 v]] w fun e w' => e = .returned (.bool (lessS (x, y) (u, v))) ∧ Ext w w' := by
  go_enter Try.func95, Try.ntmps95
  go_wp2_with fail
  apply wp_region_par' 4 (by kernel_rfl) (by kernel_rfl) rfl
  simp only [List.take_succ_cons, List.take_zero, List.drop_succ_cons, List.drop_zero]
  generalize hW : World.drew _ = W
  have hE : Ext w W := by rw [← hW]; exact ((Ext.alloc _ _).trans (Ext.alloc _ _)).trans (Ext.drew _)
  have b2 : Box W w.heap.size 24 #[.int .i64 x, .int .i64 y] := by rw [← hW]; exact ((Box.new _ _ _).alloc _).drew
  have b3 : Box W (w.heap.size + 1) 24 #[.int .i64 u, .int .i64 v] := by rw [← hW]; exact (Box.newAt (by simp)).drew
  clear hW
  have c2 := fun (z : Later W) => (b2.ext z.prop.1).cell; have c3 := fun (z : Later W) => (b3.ext z.prop.1).cell
  have f2 := fun (z : Later W) => (b2.ext z.prop.1).frozen; have f3 := fun (z : Later W) => (b3.ext z.prop.1).frozen
  iterate 4
    refine parW_step rfl (fun K hK => ?_)
    apply Exists.intro
    refine ⟨fun z => ?_, ?_⟩
    focus
      go_simp
      first
        | rfl
        | exact calls_val (hold_d _ _ _)
    go_simp
    refine hK _ ?_
    clear hK K
  refine parW_end (fun z => ?_)
  go_wp2
  all_goals
    go_ret
    exact ⟨ret_eq (by simp [lessS, *]), setD (setD (setD (setD (hE.later z) (by omega) _ _) (by omega) _ _) (by omega) _ _) (by omega) _ _⟩
def cmpS (a b : P2) : Int := if lessS a b = true then -1 else if lessS b a = true then 1 else 0
set_option maxHeartbeats 400000 in
theorem compare_d (x y u v : Int) (w : World) :
    Calls Try.prog 80 #[.agg #[.int .i64 x, .int .i64 y], .agg #[.int .i64 u, .int .i64 v]] w fun e w' => e = .returned (.int .i64 (cmpS (x, y) (u, v))) ∧ Ext w w' := by
  have HC := Lib.hid (show cmpS (x, y) (u, v) = if lessS (x, y) (u, v) = true then -1 else if lessS (u, v) (x, y) = true then 1 else 0 from rfl)
  go_enter Try.func80, Try.ntmps80
  go_wp2_with fail
  refine (Less_d _ _ _ _ _).mono ?_
  rintro e w1 ⟨rfl, hE1⟩
  have b2 : Box w1 w.heap.size 24 #[.int .i64 x, .int .i64 y] := ((Box.new _ _ _).alloc _).ext hE1.1
  have b3 : Box w1 (w.heap.size + 1) 24 #[.int .i64 u, .int .i64 v] := Box.at1.ext hE1.1
  have hE := ((Ext.alloc _ _).trans (Ext.alloc _ _)).trans hE1
  have c2 := b2.cell
  have c3 := b3.cell
  clear hE1
  cases h1 : lessS (x, y) (u, v)
  · go_wp2_with fail
    refine (Less_d _ _ _ _ _).mono ?_
    rintro e w2 ⟨rfl, hE2⟩
    cases h2 : lessS (u, v) (x, y)
    · have HR := Lib.hid (show cmpS (x, y) (u, v) = 0 from by rw [HC.out, h1, h2]; rfl)
      clear h1 h2 c2 c3
      go_wp2
      go_ret
      exact ⟨ret_eq (by rw [HR.out]; rfl), hE.trans hE2⟩
    · have HR := Lib.hid (show cmpS (x, y) (u, v) = 1 from by rw [HC.out, h1, h2]; rfl)
      clear h1 h2 c2 c3
      go_wp2
      go_ret
      exact ⟨ret_eq (by rw [HR.out]; rfl), hE.trans hE2⟩
  · have HR := Lib.hid (show cmpS (x, y) (u, v) = -1 from by rw [HC.out, h1]; rfl)
    clear h1 c2 c3
    go_wp2
    go_ret
    exact ⟨ret_eq (by rw [HR.out]; rfl), hE⟩
end Go.Proofs.Ythfeamlioiaebaa
