/- Contains; the example of the chapter. -/
import Derived.Test.YthfeamlioiaebaaPix3
set_option linter.unusedVariables false
set_option linter.unusedSimpArgs false
namespace Go.Proofs.Ythfeamlioiaebaa
open Go.RowKit Go.Par

theorem windL_bd (L : List (List P2)) (p : P2) : -4096 ≤ windL L p ∧ windL L p ≤ 4096 := by
  unfold windL
  split
  · next h =>
    rw [Bool.and_eq_true] at h
    have h1 := validL_len h.1
    have h2 := windSum_bd p L
    omega
  · omega
def hasS (L : List (List P2)) (rule : Int) (p : P2) : Bool := fillsS (windL L p) rule
theorem Contains_any (L : List (List P2)) (A : Option Addr) (c : Nat) (rule px py : Int) (w : World) (hc : L.length ≤ 17592186044416) (hL : RingsAt w A L) :
    Calls Try.prog 25 #[.slice A L.length c, .int .i64 rule, .agg #[.int .i64 px, .int .i64 py]] w fun e w' => e = .returned (.bool (hasS L rule (px, py))) ∧ Ext w w' := by
  have HW := Lib.hid (Winding_any L A c px py _ hc (hL.ext (Ext.alloc w (.cells #[.int .i64 px, .int .i64 py] 24))))
  have hb := windL_bd L (px, py)
  unfold hasS
  generalize windL L (px, py) = n at *
  generalize L.length = m at *
  clear hL
  go_enter Try.func25, Try.ntmps25
  go_wp2_with fail
  refine HW.out.mono ?_
  rintro e w1 ⟨rfl, hE⟩
  go_wp2_with fail
  refine (Fills_any n rule w1 (by omega) (by omega)).mono ?_
  rintro e w2 ⟨rfl, hE2⟩
  go_wp2
  go_ret
  exact ⟨rfl, ((Ext.alloc _ _).trans hE).trans hE2⟩
theorem rContains_any (L : List (List P2)) (A : Option Addr) (c : Nat) (rule px py : Int) (w : World) (hc : L.length ≤ 17592186044416) (hL : RingsAt w A L) :
    Calls Try.prog 26 #[.slice A L.length c, .int .i64 rule, .agg #[.int .i64 px, .int .i64 py]] w fun e w' => e = .returned (.bool (hasS L rule (px, py))) ∧ Ext w w' := by
  have HW := Lib.hid (rWinding_any L A c px py _ hc (hL.ext (Ext.alloc w (.cells #[.int .i64 px, .int .i64 py] 24))))
  have hb := windL_bd L (px, py)
  unfold hasS
  generalize windL L (px, py) = n at *
  generalize L.length = m at *
  clear hL
  go_enter Try.func26, Try.ntmps26
  go_wp2_with fail
  refine HW.out.mono ?_
  rintro e w1 ⟨rfl, hE⟩
  go_wp2_with fail
  refine (rFills_any n rule w1 (by omega) (by omega)).mono ?_
  rintro e w2 ⟨rfl, rfl⟩
  go_wp2
  go_ret
  exact ⟨rfl, (Ext.alloc _ _).trans hE⟩
theorem within_any (x y : Int) (w : World) :
    Calls Try.prog 29 #[.agg #[.int .i64 x, .int .i64 y]] w fun e w' => e = .returned (.bool (validS (x, y))) ∧ Ext w w' := by
  have hv : validS (x, y) = (decide (-1048576 ≤ x) && decide (x ≤ 1048576) && decide (-1048576 ≤ y) && decide (y ≤ 1048576)) := by simp [validS, inB, Bool.and_assoc]
  rw [hv]
  clear hv
  go_enter Try.func29, Try.ntmps29
  go_wp2
  all_goals
    go_ret
    exact ⟨ret_eq (by simp [*] <;> omega), Ext.alloc _ _⟩
def boxL : List P2 := [(0, 0), (256, 0), (256, 256), (0, 256)]
theorem ptsOfBox {w : World} {b : Nat} {t : TypeId} {cs : Array Value} {l : List P2} (h : Box w b t cs) (hc : cs = (ptCells l).toArray) : PtsAt w (some ⟨b, 0, none⟩) l := by
  intro _
  refine ⟨b, 0, rfl, fun i p hp => ?_⟩
  have := ptCells_at hp
  subst hc
  rw [h.cell, h.cell]
  simpa using this
theorem box_any (w : World) : Calls Try.prog 49 #[] w fun e w' => ∃ A, e = .returned (.slice A 4 4) ∧ Ext w w' ∧ PtsAt w' A boxL := by
  go_enter Try.func49, Try.ntmps49
  go_wp2
  go_ret
  exact ⟨_, rfl, Ext.alloc _ _, ptsOfBox (Box.new _ _ _) rfl⟩
end Go.Proofs.Ythfeamlioiaebaa
