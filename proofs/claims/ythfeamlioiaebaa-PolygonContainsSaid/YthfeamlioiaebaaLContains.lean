/- PolygonContains holds: for every slice of slices of points, every point, every two numbers the function returns true, and all that was there is as it was. -/
import Derived.Test.YthfeamlioiaebaaOpen
set_option linter.unusedVariables false
set_option linter.unusedSimpArgs false
namespace Go.Proofs.Ythfeamlioiaebaa
open Go.ChangeShapes Go.WideShapes Go.ChangeAt Go.RowKit Go.Par Go.Deep Go.Joins

set_option maxRecDepth 100000 in
set_option maxHeartbeats 1600000 in
theorem polygonContains_any (L : List (List P2)) (A : Option Addr) (c : Nat) (px py n rule : Int) (w : World) (hc : L.length ≤ 17592186044416) (hL : RingsAt w A L)
    (h1 : -9223372036854775808 ≤ n) (h2 : n ≤ 9223372036854775807) :
    Calls Try.prog 4 #[.slice A L.length c, .agg #[.int .i64 px, .int .i64 py], .int .i64 n, .int .i64 rule] w fun e w' => e = .returned (.bool true) ∧ Ext w w' := by
  have HF := Lib.hid (fun W (h : Ext w W) => few_any L A c W hc (hL.ext h))
  have HW := Lib.hid (fun W (h : Ext w W) => Winding_any L A c px py W hc (hL.ext h))
  have HR := Lib.hid (fun W (h : Ext w W) => rWinding_any L A c px py W hc (hL.ext h))
  have HC := Lib.hid (fun W (h : Ext w W) => Contains_any L A c rule px py W hc (hL.ext h))
  have HD := Lib.hid (fun W (h : Ext w W) => rContains_any L A c rule px py W hc (hL.ext h))
  have HG := Lib.hid (fun W => Fills_any n rule W h1 h2)
  have HH := Lib.hid (fun W => rFills_any n rule W h1 h2)
  generalize L.length = m at *
  generalize windL L (px, py) = t at *
  generalize hasS L rule (px, py) = u at *
  generalize fillsS n rule = v at *
  clear hL
  go_enter Try.func4, Try.ntmps4
  go_wp2_with fail
  refine (HF.out _ (Ext.alloc _ _)).mono ?_
  rintro e w1 ⟨rfl, hE⟩
  have B := (Box.new w 24 #[.int .i64 px, .int .i64 py]).ext hE
  have hE' := (Ext.alloc _ _).trans hE
  clear hE
  cases hf : fewL L
  · go_wp2_with fail
    refine (example_any _).mono ?_
    rintro e w2 ⟨rfl, hE2⟩
    go_wp2
    go_ret
    exact ⟨rfl, hE'.trans hE2⟩
  · go_wp2_with fail
    apply wp_region_par' 30 (by kernel_rfl) (by kernel_rfl) rfl
    simp only [List.take_succ_cons, List.take_zero, List.drop_succ_cons, List.drop_zero]
    generalize hW : World.drew _ = W
    have hEW : Ext w W := by rw [← hW]; exact hE'.trans (Ext.drew _)
    have B2 : Box W w.heap.size 24 #[.int .i64 px, .int .i64 py] := by rw [← hW]; exact B.drew
    clear hW
    have k2 := B2.lcell
    iterate 30
      refine parW_step rfl (fun K hK => ?_)
      apply Exists.intro
      refine ⟨fun z => ?_, ?_⟩
      focus
        go_simp
        first
          | rfl
          | with_reducible exact calls_val (HW.out _ (hEW.later z))
          | with_reducible exact calls_val (HR.out _ (hEW.later z))
          | with_reducible exact calls_val (HG.out _)
          | with_reducible exact calls_same (HH.out _)
          | with_reducible exact calls_val (HC.out _ (hEW.later z))
          | with_reducible exact calls_val (HD.out _ (hEW.later z))
          | with_reducible exact calls_val (example_any _)
      go_simp
      refine hK _ ?_
      clear hK K
    refine parW_end (fun z => ?_)
    go_wp2
    go_ret
    exact ⟨rfl, hEW.later z⟩
end Go.Proofs.Ythfeamlioiaebaa
