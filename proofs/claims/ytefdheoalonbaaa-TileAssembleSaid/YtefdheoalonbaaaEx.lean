/- The examples of the chapter: every one holds. -/
import Derived.Test.YtefdheoalonbaaaAsm3
import Derived.Test.YtefdheoalonbaaaBmEq
import Derived.Test.YtefdheoalonbaaaHilO
import Derived.Test.YtefdheoalonbaaaZ
import Derived.Test.YtefdheoalonbaaaTileRef2
set_option linter.unusedVariables false
set_option linter.unusedSimpArgs false
namespace Go.Proofs.Ytefdheoalonbaaa
open Go.RowKit Go.Par

def exP : List P4 := [(0, 0, 0, 1), (0, 0, 0, 2)]
def exL : List BM := [((0, 0, 1, 1), [(0, 0, 0, 1)]), ((1, 0, 2, 1), [(0, 0, 0, 2)])]
theorem ex_ok : bmOk ((0, 0, 2, 1), exP) = true := by decide +kernel
theorem ex_v : validT (0, 0, 2, 1) 1 1 = true := by decide +kernel
theorem ex_v0 : validT (0, 0, 2, 1) 0 1 = false := by decide +kernel
theorem ex_all : (allT (0, 0, 2, 1) 1 1).map (cropS ((0, 0, 2, 1), exP)) = exL := by decide +kernel
theorem ex_c0 : asmCode (0, 0, 2, 1) exL = 0 := by decide +kernel
theorem ex_p0 : asmP (0, 0, 2, 1) exL = exP := by decide +kernel
theorem ex_c8 : asmCode (0, 0, 3, 1) exL = 8 := by decide +kernel
theorem ex_c7 : asmCode (0, 0, 2, 1) [((0, 0, 2, 1), exP), ((0, 0, 2, 1), exP)] = 7 := by decide +kernel
theorem ex_z : zOrd (0, 0, 2, 2) 1 1 = [0, 1, 2, 3] := by decide +kernel
theorem ex_h : hilOrd (0, 0, 2, 2) 1 1 = [0, 2, 3, 1] := by decide +kernel
theorem ex_n : (allT (0, 0, 5, 3) 2 2).length = 6 := by decide +kernel
theorem ex_b : boundsT (0, 0, 5, 3) 2 2 5 = (4, 2, 5, 3) := by decide +kernel
theorem ex_i : indexT (0, 0, 5, 3) 2 2 3 2 = 4 := by decide +kernel
theorem ex_v9 : validT (0, 0, 5, 3) 9 9 = true := by decide +kernel
theorem ex_v01 : validT (0, 0, 5, 3) 0 1 = false := by decide +kernel
theorem ex_s : (shufS 5 1).length = 5 := by decide +kernel
theorem ex_el : exL.all bmOk = true := by decide +kernel
theorem ex_el2 : ([((0, 0, 2, 1), exP), ((0, 0, 2, 1), exP)] : List BM).all bmOk = true := by decide +kernel
theorem bmE_two {w : World} {b : Nat} {x0 y0 x1 y1 p0 p1 p2 p3 : Int} {A A' : Option Addr} {n c n' c' : Nat} (h : Box w b 34 #[.int .i64 x0, .int .i64 y0, .int .i64 x1, .int .i64 y1, .slice A n c, .int .i64 p0, .int .i64 p1, .int .i64 p2, .int .i64 p3, .slice A' n' c']) :
    bmE.At w (some ⟨b, 0, none⟩) [((x0, y0, x1, y1), A, n, c), ((p0, p1, p2, p3), A', n', c')] :=
  EL.At.box h fun j v hv => by simpa [EL.cells, bmE] using hv
theorem intE_four {w : World} {b : Nat} {a1 a2 a3 a4 : Int} (h : Box w b 3 #[.int .i64 a1, .int .i64 a2, .int .i64 a3, .int .i64 a4]) : intE.At w (some ⟨b, 0, none⟩) [a1, a2, a3, a4] :=
  EL.At.box h fun j v hv => by simpa [EL.cells, intE] using hv
theorem pixE_two {w : World} {b : Nat} (h : Box w b 41 #[.int .u8 0, .int .u8 0, .int .u8 0, .int .u8 1, .int .u8 0, .int .u8 0, .int .u8 0, .int .u8 2]) : pixE.At w (some ⟨b, 0, none⟩) exP :=
  EL.At.box h fun j v hv => by simpa [EL.cells, pixE, exP] using hv
set_option maxRecDepth 100000 in
set_option maxHeartbeats 1600000 in
theorem example_any (w : World) : Calls Try.prog 21 #[] w fun e w' => e = .returned (.bool true) ∧ Ext w w' := by
  go_enter Try.func21, Try.ntmps21
  go_wp2_with fail
  generalize hw0 : World.alloc (World.alloc (World.alloc w _) _) _ = w0
  have hE : Ext w w0 := by rw [← hw0]; exact ((Ext.alloc _ _).trans (Ext.alloc _ _)).trans (Ext.alloc _ _)
  have b1 : Box w0 w.heap.size 23 #[.int .i64 0, .int .i64 0, .int .i64 5, .int .i64 3] := by rw [← hw0]; exact ((Box.new _ _ _).alloc _).alloc _
  have b2 : Box w0 (w.heap.size + 1 + 1) 34 #[.int .i64 0, .int .i64 0, .int .i64 2, .int .i64 1, .slice (some ⟨w.heap.size + 1, 0, none⟩) 2 2] := by rw [← hw0]; exact Box.at2
  have hpx : pixE.At w0 (some ⟨w.heap.size + 1, 0, none⟩) exP := pixE_two (by rw [← hw0]; exact Box.at1.alloc _)
  clear hw0
  refine (Split_any 0 0 2 1 _ 2 2 exP 1 1 w0 rfl (Nat.le_refl _) (by decide) hpx ex_ok ex_v (by decide) (by decide)).mono ?_
  rintro e w1 ⟨v, ss, rfl, hE1, hown, hbms⟩
  rw [ex_all] at hbms
  have hsl : ss.length = 2 := hbms.1
  obtain ⟨AL, cL, rfl, hLc, hat⟩ := hown.at hsl (by decide)
  have hbs := hbms.of
  have HB := Lib.hid hbs
  have HS := Lib.hid hsl
  clear hown hbms hbs hsl
  replace hE := hE.trans hE1
  replace b1 := b1.ext hE1
  replace b2 := b2.ext hE1
  replace hpx := hpx.ext hE1
  clear hE1
  have c2 := b2.cell
  go_wp2_with fail
  refine (AsmMain_any 0 0 2 1 AL cL 2 ss exL w1 HS.out (by decide) hat HB.out (by decide) (by decide) ex_el).mono ?_
  rintro e w2 ⟨q0, q1, q2, q3, vj, rfl, hE1, h0, -⟩
  obtain ⟨hq, hown⟩ := h0 ex_c0
  rw [ex_c0]
  rw [ex_p0] at hown
  simp only [Prod.mk.injEq] at hq
  obtain ⟨rfl, rfl, rfl, rfl⟩ := hq
  obtain ⟨AJ, cJ, rfl, hJc, hatJ⟩ := hown.at (show exP.length = 2 from rfl) (by decide)
  clear hown h0 c2
  replace hE := hE.trans hE1
  replace b1 := b1.ext hE1
  replace b2 := b2.ext hE1
  replace hpx := hpx.ext hE1
  replace hat := hat.ext hE1
  replace HB := Lib.hid (HB.out.ext hE1)
  clear hE1
  have c2 := b2.cell
  go_wp2_with fail
  have bJ := Box.new w2 34 #[.int .i64 0, .int .i64 0, .int .i64 2, .int .i64 1, .slice AJ 2 cJ]
  generalize hw3 : World.alloc w2 _ = w3 at *
  have hE1 : Ext w2 w3 := by rw [← hw3]; exact Ext.alloc _ _
  generalize w2.heap.size = B5 at *
  refine (AsmMain_any 0 0 3 1 AL cL 2 ss exL w3 HS.out (by decide) (hat.ext hE1) (HB.out.ext hE1) (by decide) (by decide) ex_el).mono ?_
  rintro e w4 ⟨q0, q1, q2, q3, vj, rfl, hE2, -, h0⟩
  obtain ⟨hq, rfl⟩ := h0 (by rw [ex_c8]; decide)
  rw [ex_c8]
  simp only [Prod.mk.injEq] at hq
  obtain ⟨rfl, rfl, rfl, rfl⟩ := hq
  replace hE1 := hE1.trans hE2
  replace bJ := bJ.ext hE2
  replace hE := hE.trans hE1
  replace b1 := b1.ext hE1
  replace b2 := b2.ext hE1
  replace hpx := hpx.ext hE1
  replace hatJ := hatJ.ext hE1
  clear hE1 hE2 h0 c2 hw3 hat HB HS hLc
  have c2 := b2.cell
  go_wp2_with fail
  generalize hw5 : World.alloc (World.alloc w4 _) _ = w5
  have hE1 : Ext w4 w5 := by rw [← hw5]; exact (Ext.alloc _ _).trans (Ext.alloc _ _)
  have b10 : Box w5 (w4.heap.size + 1) 34 #[.int .i64 0, .int .i64 0, .int .i64 2, .int .i64 1, .slice (some ⟨w.heap.size + 1, 0, none⟩) 2 2, .int .i64 0, .int .i64 0, .int .i64 2, .int .i64 1, .slice (some ⟨w.heap.size + 1, 0, none⟩) 2 2] := by rw [← hw5]; exact Box.at1
  replace bJ := bJ.ext hE1
  replace hE := hE.trans hE1
  replace b1 := b1.ext hE1
  replace b2 := b2.ext hE1
  replace hpx := hpx.ext hE1
  replace hatJ := hatJ.ext hE1
  clear hE1 hw5 c2
  have hB1 : BmAt w5 ((0, 0, 2, 1), some ⟨w.heap.size + 1, 0, none⟩, 2, 2) ((0, 0, 2, 1), exP) := ⟨rfl, rfl, Nat.le_refl _, by decide, hpx⟩
  refine (AsmMain_any 0 0 2 1 _ 2 2 _ [((0, 0, 2, 1), exP), ((0, 0, 2, 1), exP)] w5 rfl (by decide) (bmE_two b10) (((BmsOf.nil w5).snoc hB1).snoc hB1) (by decide) (by decide) ex_el2).mono ?_
  rintro e w6 ⟨q0, q1, q2, q3, vj, rfl, hE1, -, h0⟩
  obtain ⟨hq, rfl⟩ := h0 (by rw [ex_c7]; decide)
  rw [ex_c7]
  simp only [Prod.mk.injEq] at hq
  obtain ⟨rfl, rfl, rfl, rfl⟩ := hq
  replace bJ := bJ.ext hE1
  replace hE := hE.trans hE1
  replace b1 := b1.ext hE1
  replace b2 := b2.ext hE1
  replace hpx := hpx.ext hE1
  replace hatJ := hatJ.ext hE1
  clear hE1 h0 b10 hB1
  have c2 := b2.cell
  go_wp2_with fail
  generalize hw7 : World.alloc w6 _ = w7
  have hE1 : Ext w6 w7 := by rw [← hw7]; exact Ext.alloc _ _
  refine (SplitArg_any 0 0 2 1 _ 2 2 exP 0 1 w7 rfl (by decide) (hpx.ext hE1) ex_ok ex_v0).mono ?_
  rintro e w8 ⟨rfl, hE2⟩
  replace hE1 := hE1.trans hE2
  replace bJ := bJ.ext hE1
  replace hE := hE.trans hE1
  replace b1 := b1.ext hE1
  replace b2 := b2.ext hE1
  replace hpx := hpx.ext hE1
  replace hatJ := hatJ.ext hE1
  clear hE1 hE2 c2 hw7
  go_wp2_with fail
  have bQ := Box.new w8 23 #[.int .i64 0, .int .i64 0, .int .i64 2, .int .i64 2]
  generalize hw9 : World.alloc w8 _ = w9 at *
  have hE1 : Ext w8 w9 := by rw [← hw9]; exact Ext.alloc _ _
  generalize w8.heap.size = BQ at *
  refine (ZOrder_any 0 0 2 2 1 1 w9).mono ?_
  rintro e w10 ⟨vz, rfl, hE2, hown⟩
  rw [ex_z] at hown
  obtain ⟨AZ, cZ, rfl, hZc, hatZ⟩ := hown.at (n := 4) rfl (by decide)
  replace hE1 := hE1.trans hE2
  replace bJ := bJ.ext hE1
  replace hE := hE.trans hE1
  replace b1 := b1.ext hE1
  replace b2 := b2.ext hE1
  replace hpx := hpx.ext hE1
  replace hatJ := hatJ.ext hE1
  replace bQ := bQ.ext hE2
  clear hE1 hE2 hw9 hown
  have cQ := bQ.cell
  go_wp2_with fail
  have bI := Box.new w10 3 #[.int .i64 0, .int .i64 1, .int .i64 2, .int .i64 3]
  generalize hw11 : World.alloc w10 _ = w11 at *
  have hE1 : Ext w10 w11 := by rw [← hw11]; exact Ext.alloc _ _
  generalize w10.heap.size = BI at *
  refine (Ints_any [0, 1, 2, 3] [0, 1, 2, 3] AZ _ cZ 4 4 4 w11 rfl rfl (by decide) (by decide) (hatZ.ext hE1) (intE_four bI)).mono ?_
  rintro e w12 ⟨rfl, hE2⟩
  rw [show decide (([0, 1, 2, 3] : List Int) = [0, 1, 2, 3]) = true from by decide]
  replace hE1 := hE1.trans hE2
  replace bJ := bJ.ext hE1
  replace hE := hE.trans hE1
  replace b1 := b1.ext hE1
  replace b2 := b2.ext hE1
  replace hpx := hpx.ext hE1
  replace hatJ := hatJ.ext hE1
  replace bQ := bQ.ext hE1
  clear hE1 hE2 hw11 hatZ bI cQ
  have cQ := bQ.cell
  go_wp2_with fail
  refine (HilbertOrder_any 0 0 2 2 1 1 w12).mono ?_
  rintro e w13 ⟨vz, rfl, hE1, hown⟩
  rw [ex_h] at hown
  obtain ⟨AH, cH, rfl, hHc, hatH⟩ := hown.at (n := 4) rfl (by decide)
  replace bJ := bJ.ext hE1
  replace hE := hE.trans hE1
  replace b1 := b1.ext hE1
  replace b2 := b2.ext hE1
  replace hpx := hpx.ext hE1
  replace hatJ := hatJ.ext hE1
  clear hE1 cQ bQ hown
  go_wp2_with fail
  have bI := Box.new w13 3 #[.int .i64 0, .int .i64 2, .int .i64 3, .int .i64 1]
  generalize hw14 : World.alloc w13 _ = w14 at *
  have hE1 : Ext w13 w14 := by rw [← hw14]; exact Ext.alloc _ _
  generalize w13.heap.size = BI2 at *
  refine (Ints_any [0, 2, 3, 1] [0, 2, 3, 1] AH _ cH 4 4 4 w14 rfl rfl (by decide) (by decide) (hatH.ext hE1) (intE_four bI)).mono ?_
  rintro e w15 ⟨rfl, hE2⟩
  rw [show decide (([0, 2, 3, 1] : List Int) = [0, 2, 3, 1]) = true from by decide]
  replace hE1 := hE1.trans hE2
  replace bJ := bJ.ext hE1
  replace hE := hE.trans hE1
  replace b1 := b1.ext hE1
  replace b2 := b2.ext hE1
  replace hpx := hpx.ext hE1
  replace hatJ := hatJ.ext hE1
  clear hE1 hE2 hw14 hatH bI
  have c1 := b1.cell
  go_wp2_with fail
  refine (pCount_any 0 0 5 3 2 2 w15 (by decide) (by decide)).mono ?_
  rw [ex_n]
  rintro e w16 ⟨rfl, hE1⟩
  replace bJ := bJ.ext hE1
  replace hE := hE.trans hE1
  replace b1 := b1.ext hE1
  replace b2 := b2.ext hE1
  replace hpx := hpx.ext hE1
  replace hatJ := hatJ.ext hE1
  clear hE1 c1
  have c1 := b1.cell
  go_wp2_with fail
  refine (pBounds_any 0 0 5 3 2 2 5 w16 (by decide) (by decide)).mono ?_
  rw [ex_b]
  unfold rectV
  rintro e w17 ⟨rfl, hE1⟩
  replace bJ := bJ.ext hE1
  replace hE := hE.trans hE1
  replace b1 := b1.ext hE1
  replace b2 := b2.ext hE1
  replace hpx := hpx.ext hE1
  replace hatJ := hatJ.ext hE1
  clear hE1 c1
  have c1 := b1.cell
  go_wp2_with fail
  refine (pIndexAt_any 0 0 5 3 2 2 3 2 w17 (by decide) (by decide)).mono ?_
  rw [ex_i]
  rintro e w18 ⟨rfl, hE1⟩
  replace bJ := bJ.ext hE1
  replace hE := hE.trans hE1
  replace b1 := b1.ext hE1
  replace b2 := b2.ext hE1
  replace hpx := hpx.ext hE1
  replace hatJ := hatJ.ext hE1
  clear hE1 c1
  have c1 := b1.cell
  go_wp2_with fail
  refine (pTileValid_any 0 0 5 3 9 9 w18).mono ?_
  rw [ex_v9]
  rintro e w19 ⟨rfl, hE1⟩
  replace bJ := bJ.ext hE1
  replace hE := hE.trans hE1
  replace b1 := b1.ext hE1
  replace b2 := b2.ext hE1
  replace hpx := hpx.ext hE1
  replace hatJ := hatJ.ext hE1
  clear hE1 c1
  have c1 := b1.cell
  go_wp2_with fail
  refine (pTileValid_any 0 0 5 3 0 1 w19).mono ?_
  rw [ex_v01]
  rintro e w20 ⟨rfl, hE1⟩
  replace bJ := bJ.ext hE1
  replace hE := hE.trans hE1
  replace b1 := b1.ext hE1
  replace b2 := b2.ext hE1
  replace hpx := hpx.ext hE1
  replace hatJ := hatJ.ext hE1
  clear hE1 c1
  have cJ := bJ.cell
  have c2 := b2.cell
  go_wp2_with fail
  refine (BmEqual_any 0 0 2 1 0 0 2 1 AJ _ _ 2 2 2 exP exP w20 rfl rfl (by decide) (by decide) hatJ hpx).mono ?_
  rw [decide_eq_true rfl]
  rintro e w21 ⟨rfl, hE1⟩
  replace hE := hE.trans hE1
  clear hE1 bJ b1 b2 hpx hatJ cJ c2
  go_wp2_with fail
  refine (Shuffle_any 5 1 w21 (by decide) (by decide)).mono ?_
  rintro e w22 ⟨vs, rfl, hE1, hown⟩
  obtain ⟨AS, cS, rfl, hSc, -⟩ := hown.at ex_s (by decide)
  replace hE := hE.trans hE1
  clear hown hE1
  go_wp2
  go_ret
  exact ⟨ret_eq rfl, hE⟩
end Go.Proofs.Ytefdheoalonbaaa
