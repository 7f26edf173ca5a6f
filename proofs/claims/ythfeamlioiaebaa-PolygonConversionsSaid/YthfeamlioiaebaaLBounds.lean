/- PolygonBounds: for every slice of slices of points and every point the function returns true, and all that was there is as it was. -/
import Derived.Test.YthfeamlioiaebaaOpen
import Derived.Test.YthfeamlioiaebaaBoundsLaw
import Derived.Deep.RegionHeld3
set_option linter.unusedVariables false
set_option linter.unusedSimpArgs false
namespace Go.Proofs.Ythfeamlioiaebaa
open Go.ChangeShapes Go.WideShapes Go.ChangeAt Go.RowKit Go.Par Go.Deep Go.Joins

theorem fewL_len {L : List (List P2)} (h : fewL L = true) : L.length ≤ 40 ∧ lenS L ≤ 400 := by
  simp only [fewL, Bool.and_eq_true, decide_eq_true_eq] at h
  exact h
set_option maxRecDepth 100000 in
set_option maxHeartbeats 3200000 in
theorem polygonBounds_any (L : List (List P2)) (A : Option Addr) (c : Nat) (px py : Int) (w : World) (hc : L.length ≤ 17592186044416) (hL : RingsAt w A L) :
    Calls Try.prog 3 #[.slice A L.length c, .agg #[.int .i64 px, .int .i64 py]] w fun e w' => e = .returned (.bool true) ∧ Ext w w' := by
  have HF := Lib.hid (fun W (h : Ext w W) => few_any L A c W hc (hL.ext h))
  have HB := Lib.hid (fun (hf : fewL L = true) W (h : Ext w W) => Bounds_any L A c W hc (hL.ext h) (Nat.le_trans (fewL_len hf).2 (by decide)))
  have HR := Lib.hid (fun W (h : Ext w W) => rBounds_any L A c W hc (hL.ext h))
  have HP := Lib.hid (fun (hf : fewL L = true) W (h : Ext w W) => Pix_any L A c W hc (hL.ext h) (Nat.le_trans (fewL_len hf).2 (by decide)))
  have HQ := Lib.hid (fun W (h : Ext w W) => rPix_any L A c W hc (hL.ext h))
  have HW := Lib.hid (fun W (h : Ext w W) => Winding_any L A c px py W hc (hL.ext h))
  have HL := Lib.hid (wind_pix L px py)
  generalize L.length = m at *
  generalize windL L (px, py) = t at *
  generalize boundsS L = v at *
  generalize pixS L = u at *
  obtain ⟨⟨v1, v2⟩, ⟨v3, v4⟩, v5⟩ := v
  obtain ⟨u1, u2, u3, u4⟩ := u
  unfold bndV at HB HR
  unfold rectV at HP HQ
  clear hL
  go_enter Try.func3, Try.ntmps3
  go_wp2_with fail
  refine (HF.out _ (Ext.alloc _ _)).mono ?_
  rintro e w1 ⟨rfl, hE⟩
  have B := (Box.new w 24 #[.int .i64 px, .int .i64 py]).ext hE
  have hE' := (Ext.alloc _ _).trans hE
  clear hE
  cases hf : fewL L
  · go_wp2_with fail
    refine (example_any _).mono ?_
    rintro e w2 ⟨rfl, hE2⟩
    go_wp2
    go_ret
    exact ⟨rfl, hE'.trans hE2⟩
  · have HB' := Lib.hid (HB.out hf)
    have HP' := Lib.hid (HP.out hf)
    clear HB HP hf
    go_wp2_with fail
    refine (HB'.out _ hE').mono ?_
    rintro e w2 ⟨rfl, hE2⟩
    have hE := hE'.trans hE2
    have B1 := B.ext hE2
    clear hE2 hE' B
    go_wp2_with fail
    refine (HR.out _ ((hE.trans (Ext.alloc _ _)).trans (Ext.alloc _ _))).mono ?_
    rintro e w3 ⟨rfl, hE3⟩
    have hE' := ((hE.trans (Ext.alloc _ _)).trans (Ext.alloc _ _)).trans hE3
    have B2 := ((B1.alloc _).alloc _).ext hE3
    have C1 := ((Box.new w2 24 #[.int .i64 v1, .int .i64 v2]).alloc (.cells #[.int .i64 v3, .int .i64 v4] 24)).ext hE3
    have C2 := (Box.at1 (w := w2) (t := 24) (cs := #[.int .i64 v3, .int .i64 v4]) (o := .cells #[.int .i64 v1, .int .i64 v2] 24)).ext hE3
    clear hE3 hE B1
    have k1 := C1.cell; have k2 := C2.cell
    have s1 := C1.lt; have s2 := C2.lt
    go_wp2_with fail
    refine (HP'.out _ ((hE'.trans (Ext.alloc _ _)).trans (Ext.alloc _ _))).mono ?_
    rintro e w4 ⟨rfl, hE4⟩
    have hE := ((hE'.trans (Ext.alloc _ _)).trans (Ext.alloc _ _)).trans hE4
    have B1 := ((B2.alloc _).alloc _).ext hE4
    clear hE4 hE' B2 k1 k2 s1 s2 C1 C2
    go_wp2_with fail
    refine (HQ.out _ hE).mono ?_
    rintro e w5 ⟨rfl, hE5⟩
    have hE' := hE.trans hE5
    have B2 := B1.ext hE5
    have k1 := B2.cell
    clear hE5 hE B1
    go_wp2_with fail
    go_region_held3 (fun w' => w'.cell? ⟨w.heap.size, 0, none⟩ = some (.int .i64 px) ∧ w'.cell? ⟨w.heap.size, 1, none⟩ = some (.int .i64 py)) (go_keep) (fail)
    clear k1
    have B3 := B2.drew
    have hE := hE'.trans (Ext.drew _)
    clear B2 hE'
    go_wp2_with fail
    all_goals
      first
      | refine (example_any _).mono ?_
        rintro e w6 ⟨rfl, hE6⟩
        go_wp2
        go_ret
        exact ⟨rfl, hE.trans hE6⟩
      | skip
    refine (HW.out _ hE).mono ?_
    rintro e w6 ⟨rfl, hE6⟩
    have hE' := hE.trans hE6
    clear hE hE6 B3
    by_cases ht : t = 0
    · subst ht
      go_wp2_with fail
      refine (example_any _).mono ?_
      rintro e w7 ⟨rfl, hE7⟩
      go_wp2
      go_ret
      exact ⟨rfl, hE'.trans hE7⟩
    · have ht' : (t == 0) = false := by simpa using ht
      have hH := HL.out.resolve_left ht
      have HH := Lib.hid (rectHas_any u1 u2 u3 u4 (px / 256) (py / 256))
      rw [hH] at HH
      have q1 : IntKind.i64.wrap (px.tdiv 256) = px / 256 := by rw [Int.tdiv_eq_ediv_of_nonneg (by omega)]; exact IntWalk.i64_in _ (by omega)
      have q2 : IntKind.i64.wrap (py.tdiv 256) = py / 256 := by rw [Int.tdiv_eq_ediv_of_nonneg (by omega)]; exact IntWalk.i64_in _ (by omega)
      clear hH
      go_wp2_with fail
      refine (HP'.out _ hE').mono ?_
      rintro e w7 ⟨rfl, hE7⟩
      have hE := hE'.trans hE7
      clear hE' hE7
      go_wp2_with fail
      refine (HH.out _).mono ?_
      rintro e w8 ⟨rfl, hE8⟩
      have hE' := hE.trans hE8
      clear hE hE8
      go_wp2_with fail
      refine (example_any _).mono ?_
      rintro e w9 ⟨rfl, hE9⟩
      go_wp2
      go_ret
      exact ⟨rfl, hE'.trans hE9⟩
end Go.Proofs.Ythfeamlioiaebaa
