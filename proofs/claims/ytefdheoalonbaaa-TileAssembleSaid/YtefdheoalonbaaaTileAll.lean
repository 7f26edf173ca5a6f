/- tile.Valid, rect.Tiles, tile.all: the tiles of a page, row by row. -/
import Derived.Test.YtefdheoalonbaaaRect
import Derived.Deep.RegionHeld3
set_option linter.unusedVariables false
set_option linter.unusedSimpArgs false
namespace Go.Proofs.Ytefdheoalonbaaa
open Go.RowKit Go.Par Go.Shelf

def rectE : EL Try.prog R4 where
  enc := fun r => [.int .i64 r.1, .int .i64 r.2.1, .int .i64 r.2.2.1, .int .i64 r.2.2.2]
  size := 4
  t := 23
  st := 64
  zero := .agg #[.int .i64 0, .int .i64 0, .int .i64 0, .int .i64 0]
  bytes := 32
  len := fun _ => rfl
  one := fun x v hv => by simp at hv; rcases hv with rfl | rfl | rfl | rfl <;> rfl
  pos := by decide
  und := Try.underlying64
  info := by kernel_rfl
  zsize := rfl
  small := by decide
/-- columns of a page of tiles: (n - 1) / w + 1 -/
def timesS (n w : Int) : Int := (n - 1).tdiv w + 1
def validT (r : R4) (w h : Int) : Bool := !rectEmptyS r && decide (1 ≤ w) && decide (1 ≤ h) && decide (timesS (r.2.2.1 - r.1) w * timesS (r.2.2.2 - r.2.1) h ≤ 256)
theorem empty_false {r : R4} (h : rectEmptyS r = false) : -4096 ≤ r.1 ∧ r.2.2.1 ≤ 4096 ∧ -4096 ≤ r.2.1 ∧ r.2.2.2 ≤ 4096 ∧ r.1 < r.2.2.1 ∧ r.2.1 < r.2.2.2 := by
  simp only [rectEmptyS, rectValidS, inR, Bool.or_eq_false_iff, Bool.not_eq_false', Bool.and_eq_true, decide_eq_true_eq, decide_eq_false_iff_not] at h
  omega
theorem times_facts {n w : Int} (hn : 0 < n) (hn2 : n ≤ 100000) (hw : 1 ≤ w) : 1 ≤ timesS n w ∧ timesS n w ≤ n ∧ (timesS n w - 1) * w < n ∧ n ≤ timesS n w * w := by
  have h1 := Int.mul_tdiv_add_tmod (n - 1) w
  have h2 := Int.tmod_nonneg w (show 0 ≤ n - 1 by omega)
  have h3 := Int.tmod_lt_of_pos (n - 1) (show 0 < w by omega)
  have h4 : 0 ≤ (n - 1).tdiv w := Int.tdiv_nonneg (by omega) (by omega)
  unfold timesS
  generalize (n - 1).tdiv w = q at *
  have e : w * q = q * w := Int.mul_comm _ _
  have h5 : q ≤ q * w := by
    have := Int.mul_le_mul_of_nonneg_left hw h4
    omega
  refine ⟨by omega, by omega, ?_, ?_⟩
  · rw [show q + 1 - 1 = q by omega]; omega
  · rw [Int.add_mul, Int.one_mul]; omega
theorem times_list {n w lo : Int} (hn : 0 < n) (hn2 : n ≤ 100000) (hw : 1 ≤ w) : (∀ k : Nat, k < (timesS n w).toNat → lo + (k : Int) * w < lo + n) ∧ lo + n ≤ lo + ((timesS n w).toNat : Int) * w := by
  obtain ⟨h1, h2, h3, h4⟩ := times_facts hn hn2 hw
  refine ⟨fun k hk => ?_, ?_⟩
  · have hk' : (k : Int) ≤ timesS n w - 1 := by omega
    have := Int.mul_le_mul_of_nonneg_right hk' (show 0 ≤ w by omega)
    omega
  · rw [Int.toNat_of_nonneg (by omega)]; omega
set_option maxHeartbeats 800000 in
theorem pTileValid_any (x0 y0 x1 y1 wd ht : Int) (w : World) :
    Calls Try.prog 13 #[.agg #[.int .i64 x0, .int .i64 y0, .int .i64 x1, .int .i64 y1], .int .i64 wd, .int .i64 ht] w fun e w' => e = .returned (.bool (validT (x0, y0, x1, y1) wd ht)) ∧ Ext w w' := by
  have HV := Lib.hid (show validT (x0, y0, x1, y1) wd ht = (!rectEmptyS (x0, y0, x1, y1) && decide (1 ≤ wd) && decide (1 ≤ ht) && decide (timesS (x1 - x0) wd * timesS (y1 - y0) ht ≤ 256)) from rfl)
  go_enter Try.func13, Try.ntmps13
  go_wp2_with fail
  refine (pEmpty_any _ _ _ _ _).mono ?_
  rintro e w1 ⟨rfl, hE⟩
  have B := (Box.new _ _ _).ext hE
  have hE' := (Ext.alloc _ _).trans hE
  clear hE
  cases hv : rectEmptyS (x0, y0, x1, y1)
  · by_cases hw : wd < 1
    · have HR := Lib.hid (show validT (x0, y0, x1, y1) wd ht = false from by rw [HV.out, hv, decide_eq_false (show ¬ 1 ≤ wd by omega)]; rfl)
      clear hv HV
      go_wp2
      go_ret
      exact ⟨ret_eq (by rw [HR.out]; rfl), hE'⟩
    · by_cases hh : ht < 1
      · have HR := Lib.hid (show validT (x0, y0, x1, y1) wd ht = false from by rw [HV.out, hv, decide_eq_false (show ¬ 1 ≤ ht by omega)]; simp)
        have d1 : (wd < 1) = False := eq_false hw
        clear hv HV
        go_wp2
        go_ret
        exact ⟨ret_eq (by rw [HR.out]; rfl), hE'⟩
      · obtain ⟨b1, b2, b3, b4, b5, b6⟩ := empty_false hv
        simp only at b1 b2 b3 b4 b5 b6
        obtain ⟨t1, t2, _, _⟩ := times_facts (n := x1 - x0) (w := wd) (by omega) (by omega) (by omega)
        obtain ⟨t3, t4, _, _⟩ := times_facts (n := y1 - y0) (w := ht) (by omega) (by omega) (by omega)
        have HR := Lib.hid (show validT (x0, y0, x1, y1) wd ht = decide (timesS (x1 - x0) wd * timesS (y1 - y0) ht ≤ 256) from by rw [HV.out, hv, decide_eq_true (show 1 ≤ wd by omega), decide_eq_true (show 1 ≤ ht by omega)]; rfl)
        have tb := mul_le (a := 8192) (b := 8192) (x := timesS (x1 - x0) wd) (y := timesS (y1 - y0) ht) (by omega) (by omega) (by omega) (by omega)
        unfold timesS at HR t1 t2 t3 t4 tb
        have w1' : IntKind.i64.wrap (x1 - x0) = x1 - x0 := IntWalk.i64_in _ (by omega)
        have w2' : IntKind.i64.wrap (x1 - x0 - 1) = x1 - x0 - 1 := IntWalk.i64_in _ (by omega)
        have w3' : IntKind.i64.wrap (y1 - y0) = y1 - y0 := IntWalk.i64_in _ (by omega)
        have w4' : IntKind.i64.wrap (y1 - y0 - 1) = y1 - y0 - 1 := IntWalk.i64_in _ (by omega)
        generalize hq1 : (x1 - x0 - 1).tdiv wd = q1 at *
        generalize hq2 : (y1 - y0 - 1).tdiv ht = q2 at *
        have w5' : IntKind.i64.wrap q1 = q1 := IntWalk.i64_in _ (by omega)
        have w6' : IntKind.i64.wrap q2 = q2 := IntWalk.i64_in _ (by omega)
        have w7' : IntKind.i64.wrap (q1 + 1) = q1 + 1 := IntWalk.i64_in _ (by omega)
        have w8' : IntKind.i64.wrap (q2 + 1) = q2 + 1 := IntWalk.i64_in _ (by omega)
        have w9' : IntKind.i64.wrap ((q1 + 1) * (q2 + 1)) = (q1 + 1) * (q2 + 1) := IntWalk.i64_in _ (by omega)
        have d1 : (wd < 1) = False := eq_false hw
        have d2 : (ht < 1) = False := eq_false hh
        have d3 : ¬ wd = 0 := by omega
        have d4 : ¬ ht = 0 := by omega
        clear hv HV t1 t2 t3 t4 tb b1 b2 b3 b4 b5 b6
        go_wp2_with fail
        have hc0 : w1.cell? ⟨w.heap.size, 0, none⟩ = some (.int .i64 x0) := B.cell 0
        have hc1 : w1.cell? ⟨w.heap.size, 1, none⟩ = some (.int .i64 y0) := B.cell 1
        have hc2 : w1.cell? ⟨w.heap.size, 2, none⟩ = some (.int .i64 x1) := B.cell 2
        have hc3 : w1.cell? ⟨w.heap.size, 3, none⟩ = some (.int .i64 y1) := B.cell 3
        go_region_held3 (fun w' => w'.cell? ⟨w.heap.size, 0, none⟩ = some (.int .i64 x0) ∧ w'.cell? ⟨w.heap.size, 1, none⟩ = some (.int .i64 y0) ∧ w'.cell? ⟨w.heap.size, 2, none⟩ = some (.int .i64 x1) ∧ w'.cell? ⟨w.heap.size, 3, none⟩ = some (.int .i64 y1)) (go_keep) (fail)
        clear hc0 hc1 hc2 hc3 w1' w2' w3' w4' w5' w6' w7' w8' hq1 hq2
        go_wp2
        go_ret
        exact ⟨ret_eq (by rw [HR.out]; rfl), hE'.trans (Ext.drew _)⟩
  · have HR := Lib.hid (show validT (x0, y0, x1, y1) wd ht = false from by rw [HV.out, hv]; rfl)
    clear hv HV
    go_wp2
    go_ret
    exact ⟨ret_eq (by rw [HR.out]; rfl), hE'⟩
set_option maxHeartbeats 800000 in
theorem pTiles_any (x0 y0 x1 y1 wd ht : Int) (w : World) :
    Calls Try.prog 66 #[.agg #[.int .i64 x0, .int .i64 y0, .int .i64 x1, .int .i64 y1], .int .i64 wd, .int .i64 ht] w fun e w' =>
      e = .returned (.func (.func 80) #[] #[.pointer (some ⟨w.heap.size + 1, 0, none⟩), .pointer (some ⟨w.heap.size + 1 + 1, 0, none⟩), .pointer (some ⟨w.heap.size, 0, none⟩)]) ∧ Ext w w' ∧
      Box w' w.heap.size 23 #[.int .i64 (rectCanonS (x0, y0, x1, y1)).1, .int .i64 (rectCanonS (x0, y0, x1, y1)).2.1, .int .i64 (rectCanonS (x0, y0, x1, y1)).2.2.1, .int .i64 (rectCanonS (x0, y0, x1, y1)).2.2.2] ∧
      Box w' (w.heap.size + 1) 3 #[.int .i64 wd] ∧ Box w' (w.heap.size + 1 + 1) 3 #[.int .i64 ht] := by
  have H := Lib.hid (pCanon_any x0 y0 x1 y1)
  generalize rectCanonS (x0, y0, x1, y1) = rr at *
  obtain ⟨p, q, r, s⟩ := rr
  unfold rectV at H
  go_enter Try.func66, Try.ntmps66
  go_wp2_with fail
  refine (H.out _).mono ?_
  rintro e w1 ⟨rfl, hE⟩
  have B := (((Box.new _ _ _).alloc _).alloc _).ext hE
  have B1 := (Box.at1.alloc _).ext hE
  have B2 := Box.at2.ext hE
  have k := B.cell
  have f := B.frozen
  have hE' := (((Ext.alloc _ _).trans (Ext.alloc _ _)).trans (Ext.alloc _ _)).trans hE
  clear hE
  go_wp2
  go_ret
  exact ⟨rfl, hE'.set4 (Nat.le_refl _) _ _ _ _, B.set4 _ _ _ _, (((B1.far (by simp) _).far (by simp) _).far (by simp) _).far (by simp) _, (((B2.far (by simp <;> omega) _).far (by simp <;> omega) _).far (by simp <;> omega) _).far (by simp <;> omega) _⟩
end Go.Proofs.Ytefdheoalonbaaa
