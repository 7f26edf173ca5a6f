/- The example of the chapter holds. -/
import Derived.Test.YthfeamlioiaebaaExample
set_option linter.unusedVariables false
set_option linter.unusedSimpArgs false
namespace Go.Proofs.Ythfeamlioiaebaa
open Go.RowKit Go.Par

theorem box_area : areaS boxL = 131072 := by decide
theorem box_wind0 : windL [boxL] (0, 0) = 1 := by decide
theorem box_wind1 : windL [boxL] (256, 256) = 0 := by decide
theorem box_has : hasS [boxL] 2 (9, 9) = true := by decide
theorem box_bounds : boundsS [boxL] = ((0, 0), (256, 256), true) := by decide
theorem box_pix : pixS [boxL] = (0, 0, 1, 1) := by decide
set_option maxRecDepth 100000 in
set_option maxHeartbeats 1600000 in
theorem example_any (w : World) : Calls Try.prog 15 #[] w fun e w' => e = .returned (.bool true) ∧ Ext w w' := by
  have hBo := fun (A : Option Addr) (b : Nat) (W : World) (hB : Box W b 38 #[.slice A 4 4]) (hP : PtsAt W A boxL) => Bounds_any [boxL] (some ⟨b, 0, none⟩) 1 W (by simp) (RingsAt.one hB (by decide) (by decide) hP) (by decide)
  have hPi := fun (A : Option Addr) (b : Nat) (W : World) (hB : Box W b 38 #[.slice A 4 4]) (hP : PtsAt W A boxL) => Pix_any [boxL] (some ⟨b, 0, none⟩) 1 W (by simp) (RingsAt.one hB (by decide) (by decide) hP) (by decide)
  have hCo := fun (A : Option Addr) (b : Nat) (W : World) (hB : Box W b 38 #[.slice A 4 4]) (hP : PtsAt W A boxL) => Contains_any [boxL] (some ⟨b, 0, none⟩) 1 2 9 9 W (by simp) (RingsAt.one hB (by decide) (by decide) hP)
  have hW0 := fun (A : Option Addr) (b : Nat) (W : World) (hB : Box W b 38 #[.slice A 4 4]) (hP : PtsAt W A boxL) => Winding_any [boxL] (some ⟨b, 0, none⟩) 1 0 0 W (by simp) (RingsAt.one hB (by decide) (by decide) hP)
  have hW1 := fun (A : Option Addr) (b : Nat) (W : World) (hB : Box W b 38 #[.slice A 4 4]) (hP : PtsAt W A boxL) => Winding_any [boxL] (some ⟨b, 0, none⟩) 1 256 256 W (by simp) (RingsAt.one hB (by decide) (by decide) hP)
  have hDA := fun (A : Option Addr) (W : World) (hP : PtsAt W A boxL) => DoubleArea_any boxL A 4 4 W rfl (by decide) (by decide) hP
  rw [box_area] at hDA
  rw [box_wind0] at hW0
  rw [box_wind1] at hW1
  rw [box_has] at hCo
  rw [box_bounds] at hBo
  rw [box_pix] at hPi
  have HBo := Lib.hid hBo; have HPi := Lib.hid hPi; have HCo := Lib.hid hCo; have HW0 := Lib.hid hW0; have HW1 := Lib.hid hW1; have HDA := Lib.hid hDA
  clear hBo hPi hCo hW0 hW1 hDA
  go_enter Try.func15, Try.ntmps15
  go_wp2_with fail
  refine (box_any _).mono ?_
  rintro e w1 ⟨A, rfl, hE1, hP⟩
  go_wp2_with fail
  have B := Box.new w1 38 #[.slice A 4 4]
  refine (HBo.out A _ _ B (hP.ext (Ext.alloc _ _))).mono ?_
  rintro e w2 ⟨rfl, hE2⟩
  have hE := (hE1.trans (Ext.alloc _ _)).trans hE2
  have B1 := B.ext hE2
  have hP1 := (hP.ext (Ext.alloc _ _)).ext hE2
  have hlt := B1.lt
  clear hE1 hE2 B hP
  unfold bndV
  go_wp2_with fail
  refine (box_any _).mono ?_
  rintro e w3 ⟨A', rfl, hE3, hQ⟩
  have C2 := ((Box.new w2 24 #[.int .i64 0, .int .i64 0]).alloc (.cells #[.int .i64 256, .int .i64 256] 24)).ext hE3
  have C3 := (Box.at1 (w := w2) (t := 24) (cs := #[.int .i64 256, .int .i64 256]) (o := .cells #[.int .i64 0, .int .i64 0] 24)).ext hE3
  have hX := ((Ext.alloc w2 (.cells #[.int .i64 0, .int .i64 0] 24)).trans (Ext.alloc _ (.cells #[.int .i64 256, .int .i64 256] 24))).trans hE3
  have hE' := hE.trans hX
  have B2 := B1.ext hX
  have hP2 := hP1.ext hX
  clear hE3 hX B1 hP1 hE
  go_wp2_with fail
  refine (HDA.out A' _ hQ).mono ?_
  rintro e w4 ⟨rfl, hE4⟩
  have hE := hE'.trans hE4
  have B3 := B2.ext hE4; have D2 := C2.ext hE4; have D3 := C3.ext hE4; have hP3 := hP2.ext hE4
  clear hE' hE4 B2 C2 C3 hP2 hQ
  go_wp2_with fail
  refine (HW0.out A _ _ B3 hP3).mono ?_
  rintro e w5 ⟨rfl, hE5⟩
  have hE' := hE.trans hE5
  have B2 := B3.ext hE5; have C2 := D2.ext hE5; have C3 := D3.ext hE5; have hP2 := hP3.ext hE5
  clear hE hE5 B3 D2 D3 hP3
  go_wp2_with fail
  refine (HW1.out A _ _ B2 hP2).mono ?_
  rintro e w6 ⟨rfl, hE6⟩
  have hE := hE'.trans hE6
  have B3 := B2.ext hE6; have D2 := C2.ext hE6; have D3 := C3.ext hE6; have hP3 := hP2.ext hE6
  clear hE' hE6 B2 C2 C3 hP2
  go_wp2_with fail
  refine (HCo.out A _ _ B3 hP3).mono ?_
  rintro e w7 ⟨rfl, hE7⟩
  have hE' := hE.trans hE7
  have B2 := B3.ext hE7; have C2 := D2.ext hE7; have C3 := D3.ext hE7; have hP2 := hP3.ext hE7
  clear hE hE7 B3 D2 D3 hP3
  have k2 := C2.cell; have k3 := C3.cell
  go_wp2_with fail
  refine (HPi.out A _ _ B2 hP2).mono ?_
  rintro e w8 ⟨rfl, hE8⟩
  have hE := hE'.trans hE8
  clear k2 k3
  unfold rectV
  go_wp2
  go_ret
  exact ⟨rfl, hE⟩
end Go.Proofs.Ythfeamlioiaebaa
