/- TileBounds holds: for every page, every three numbers and every place the function returns true, and all that was there is as it was. -/
import Derived.Test.YtefdheoalonbaaaEx
import Derived.BigRegion
set_option linter.unusedVariables false
set_option linter.unusedSimpArgs false
namespace Go.Proofs.Ytefdheoalonbaaa
open Go.RowKit Go.Par

set_option maxRecDepth 100000 in
set_option maxHeartbeats 1600000 in
theorem tileBounds_any (x0 y0 x1 y1 wd ht i ax ay : Int) (w : World) (hw2 : wd ≤ 9223372036854775807) (hh2 : ht ≤ 9223372036854775807) :
    Calls Try.prog 3 #[.agg #[.int .i64 x0, .int .i64 y0, .int .i64 x1, .int .i64 y1], .agg #[.int .i64 wd, .int .i64 ht, .int .i64 i], .agg #[.int .i64 ax, .int .i64 ay]] w fun e w' => e = .returned (.bool true) ∧ Ext w w' := by
  have H1 := Lib.hid (fun W => pTileValid_any x0 y0 x1 y1 wd ht W)
  have H2 := Lib.hid (fun W => rTileValid_any x0 y0 x1 y1 wd ht W)
  have H3 := Lib.hid (fun W => pCount_any x0 y0 x1 y1 wd ht W hw2 hh2)
  have H4 := Lib.hid (fun W => rCount_any x0 y0 x1 y1 wd ht W)
  have H5 := Lib.hid (fun W => pBounds_any x0 y0 x1 y1 wd ht i W hw2 hh2)
  have H6 := Lib.hid (fun W => rBounds_any x0 y0 x1 y1 wd ht i W)
  have H7 := Lib.hid (fun W => pIndexAt_any x0 y0 x1 y1 wd ht ax ay W hw2 hh2)
  have H8 := Lib.hid (fun W => rIndexAt_any x0 y0 x1 y1 wd ht ax ay W)
  generalize validT (x0, y0, x1, y1) wd ht = v1 at *
  generalize (allT (x0, y0, x1, y1) wd ht).length = v2 at *
  generalize boundsT (x0, y0, x1, y1) wd ht i = v3 at *
  generalize indexT (x0, y0, x1, y1) wd ht ax ay = v4 at *
  obtain ⟨r0, r1, r2, r3⟩ := v3
  unfold rectV at H5 H6
  go_enter Try.func3, Try.ntmps3
  go_wp2_with fail
  go_quiet (fail)
  go_wp2_with fail
  apply wp_region_par' 55 (by kernel_rfl) (by kernel_rfl) rfl
  simp only [List.take_succ_cons, List.take_zero, List.drop_succ_cons, List.drop_zero]
  generalize hW : World.drew _ = W
  have hD : Ext (((w.alloc (.cells #[.int .i64 x0, .int .i64 y0, .int .i64 x1, .int .i64 y1] 23)).alloc (.cells #[.int .i64 wd, .int .i64 ht, .int .i64 i] 24)).alloc (.cells #[.int .i64 ax, .int .i64 ay] 25)) W := by rw [← hW]; exact ((Ext.refl _).drewN nq).trans (Ext.drew _)
  have hE : Ext w W := (((Ext.alloc _ _).trans (Ext.alloc _ _)).trans (Ext.alloc _ _)).trans hD
  have b3 : Box W w.heap.size 23 #[.int .i64 x0, .int .i64 y0, .int .i64 x1, .int .i64 y1] := (((Box.new _ _ _).alloc _).alloc _).ext hD
  have b5 : Box W (w.heap.size + 1 + 1) 25 #[.int .i64 ax, .int .i64 ay] := Box.at2.ext hD
  clear hW hD
  have k3 := b3.lcell
  have k5 := b5.lcell
  iterate 55
    refine parW_step rfl (fun K hK => ?_)
    apply Exists.intro
    refine ⟨fun z => ?_, ?_⟩
    focus
      go_simp
      first
        | rfl
        | with_reducible exact calls_val (H1.out _)
        | with_reducible exact calls_val (H2.out _)
        | with_reducible exact calls_val (H3.out _)
        | with_reducible exact calls_val (H4.out _)
        | with_reducible exact calls_val (H5.out _)
        | with_reducible exact calls_val (H6.out _)
        | with_reducible exact calls_val (H7.out _)
        | with_reducible exact calls_val (H8.out _)
        | with_reducible exact calls_val (example_any _)
    go_simp
    refine hK _ ?_
    clear hK K
  refine parW_end (fun z => ?_)
  go_wp2
  go_ret
  exact ⟨rfl, hE.later z⟩
end Go.Proofs.Ytefdheoalonbaaa
