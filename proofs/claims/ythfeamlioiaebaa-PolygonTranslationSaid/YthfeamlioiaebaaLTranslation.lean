/- PolygonTranslation: for every slice of slices of points and every two points the function returns true, and all that was there is as it was. -/
import Derived.Test.YthfeamlioiaebaaOpen
import Derived.Test.YthfeamlioiaebaaTransLaw
import Derived.Test.YthfeamlioiaebaaLBounds
set_option linter.unusedVariables false
set_option linter.unusedSimpArgs false
namespace Go.Proofs.Ythfeamlioiaebaa
open Go.ChangeShapes Go.WideShapes Go.ChangeAt Go.RowKit Go.Par Go.Deep Go.Joins

set_option maxRecDepth 100000 in
set_option maxHeartbeats 800000 in
theorem polygonTranslation_any (L : List (List P2)) (A : Option Addr) (c : Nat) (bx by_ px py : Int) (w : World) (hc : L.length ≤ 17592186044416) (hL : RingsAt w A L) :
    Calls Try.prog 6 #[.slice A L.length c, .agg #[.int .i64 bx, .int .i64 by_], .agg #[.int .i64 px, .int .i64 py]] w fun e w' => e = .returned (.bool true) ∧ Ext w w' := by
  have HF := Lib.hid (fun W (h : Ext w W) => few_any L A c W hc (hL.ext h))
  have HV := Lib.hid (fun W (h : Ext w W) => Valid_any L A c W hc (hL.ext h))
  have HW := Lib.hid (fun W (h : Ext w W) => Winding_any L A c px py W hc (hL.ext h))
  have HT := Lib.hid (fun (hf : fewL L = true) W (h : Ext w W) => Translate_any L A c bx by_ W (Nat.le_trans (fewL_len hf).1 (by decide)) (Nat.le_trans (fewL_len hf).2 (by decide)) (hL.ext h))
  obtain ⟨n, hn⟩ : ∃ n, n = L.length := ⟨_, rfl⟩
  rw [← hn] at HF HV HW HT hc ⊢
  have HN := Lib.hid hn
  clear hn
  have HWB := Lib.hid (within_any bx by_)
  have HWP := Lib.hid (within_any px py)
  go_enter Try.func6, Try.ntmps6
  go_wp2_with fail
  refine (HF.out _ ((Ext.alloc _ _).trans (Ext.alloc _ _))).mono ?_
  rintro e w1 ⟨rfl, hE1⟩
  have B1 := ((Box.new w 24 #[.int .i64 bx, .int .i64 by_]).alloc (.cells #[.int .i64 px, .int .i64 py] 24)).ext hE1
  have C1 := (Box.at1 (w := w) (t := 24) (cs := #[.int .i64 px, .int .i64 py]) (o := .cells #[.int .i64 bx, .int .i64 by_] 24)).ext hE1
  have hE := ((Ext.alloc w _).trans (Ext.alloc _ _)).trans hE1
  clear hE1
  cases hf : fewL L
  · go_wp2_with fail
    refine (example_any _).mono ?_
    rintro e w2 ⟨rfl, hE2⟩
    go_wp2
    go_ret
    exact ⟨rfl, hE.trans hE2⟩
  have HT' := Lib.hid (HT.out hf)
  clear HT
  go_wp2_with fail
  refine (HV.out _ hE).mono ?_
  rintro e w2 ⟨rfl, hE2⟩
  have hE' := hE.trans hE2
  have B2 := B1.ext hE2; have C2 := C1.ext hE2
  clear hE hE2 B1 C1
  cases hv : validL L
  · go_wp2_with fail
    refine (example_any _).mono ?_
    rintro e w3 ⟨rfl, hE3⟩
    go_wp2
    go_ret
    exact ⟨rfl, hE'.trans hE3⟩
  have kB := B2.cell
  go_wp2_with fail
  refine (HWB.out _).mono ?_
  rintro e w3 ⟨rfl, hE3⟩
  have hE := hE'.trans hE3
  have B3 := B2.ext hE3; have C3 := C2.ext hE3
  clear hE' hE3 B2 C2 kB
  cases hb : validS (bx, by_)
  · go_wp2_with fail
    refine (example_any _).mono ?_
    rintro e w4 ⟨rfl, hE4⟩
    go_wp2
    go_ret
    exact ⟨rfl, hE.trans hE4⟩
  have kC := C3.cell
  go_wp2_with fail
  refine (HWP.out _).mono ?_
  rintro e w4 ⟨rfl, hE4⟩
  have hE' := hE.trans hE4
  have B4 := B3.ext hE4; have C4 := C3.ext hE4
  clear hE hE4 B3 C3 kC
  cases hp : validS (px, py)
  · go_wp2_with fail
    refine (example_any _).mono ?_
    rintro e w5 ⟨rfl, hE5⟩
    go_wp2
    go_ret
    exact ⟨rfl, hE'.trans hE5⟩
  have kB := B4.cell
  go_wp2_with fail
  refine (HT'.out _ hE').mono ?_
  rintro e w5 ⟨v, vs, rfl, hE5, hown, hel⟩
  have hE := hE'.trans hE5
  have B5 := B4.ext hE5; have C5 := C4.ext hE5
  clear hE' B4 C4 kB
  obtain ⟨M, hM⟩ : ∃ M, M = transL L (bx, by_) := ⟨_, rfl⟩
  have hMl : M.length = n := by rw [hM]; unfold transL; rw [hv, if_pos rfl, List.length_map]; exact HN.out.symm
  rw [← hM] at hel
  obtain ⟨A', c', rfl, hlc, hlb, hR⟩ := hown.rings hel.rows (by rw [hMl]; exact hc)
  rw [hMl]
  rw [hMl] at hlc hlb
  have hadd := addS_valid hp hb
  have i1 := validS_inP hb
  have i2 := validS_inP hp
  unfold inP at i1 i2
  simp only at i1 i2 hadd
  have HVM := Lib.hid (fun W (h : Ext w5 W) => Valid_any M A' c' W (by rw [hMl]; exact hlb) (hR.ext h))
  have HWM := Lib.hid (fun W (h : Ext w5 W) => Winding_any M A' c' (px + bx) (py + by_) W (by rw [hMl]; exact hlb) (hR.ext h))
  have HWQ := Lib.hid (within_any (px + bx) (py + by_))
  rw [hMl] at HVM HWM
  have HMM := Lib.hid hM
  have HML := Lib.hid hMl
  clear hM hMl hown hel hE5
  have kB := B5.cell; have kC := C5.cell
  obtain ⟨⟨j1, j2, j3, j4⟩, j5, j6, j7, j8⟩ : (-1048576 ≤ bx ∧ bx ≤ 1048576 ∧ -1048576 ≤ by_ ∧ by_ ≤ 1048576) ∧ -1048576 ≤ px ∧ px ≤ 1048576 ∧ -1048576 ≤ py ∧ py ≤ 1048576 := ⟨i1, i2⟩
  have HADD := Lib.hid hadd
  clear i1 i2 hadd
  go_wp2_with fail
  refine (HVM.out _ (Ext.alloc _ _)).mono ?_
  rintro e w6 ⟨rfl, hE6⟩
  have hE' := (hE.trans (Ext.alloc _ _)).trans hE6
  have hE56 := (Ext.alloc w5 _).trans hE6
  have D6 := (Box.new w5 24 #[.int .i64 (px + bx), .int .i64 (py + by_)]).ext hE6
  have C6 := (C5.alloc _).ext hE6
  clear kB kC hE hE6 B5 C5
  cases hvm : validL M
  · go_wp2_with fail
    refine (example_any _).mono ?_
    rintro e w7 ⟨rfl, hE7⟩
    go_wp2
    go_ret
    exact ⟨rfl, hE'.trans hE7⟩
  have kD := D6.cell
  go_wp2_with fail
  refine (HWQ.out _).mono ?_
  rintro e w7 ⟨rfl, hE7⟩
  have hE := hE'.trans hE7
  have hE57 := hE56.trans hE7
  have D7 := D6.ext hE7; have C7 := C6.ext hE7
  clear kD hE' hE7 D6 C6 hE56
  cases hq : validS (px + bx, py + by_)
  · go_wp2_with fail
    refine (example_any _).mono ?_
    rintro e w8 ⟨rfl, hE8⟩
    go_wp2
    go_ret
    exact ⟨rfl, hE.trans hE8⟩
  have hlw : windL M (px + bx, py + by_) = windL L (px, py) := by
    have := windL_move (L := L) (p := (px, py)) (t := (bx, by_)) hv hb hp (by rw [← HMM.out]; exact hvm) (by rw [HADD.out]; exact hq)
    rw [HADD.out, ← HMM.out] at this
    exact this
  have HAR := Lib.hid (fun (r : List P2) (hr : r ∈ L) => areaS_move (L := L) (t := (bx, by_)) hv hb (by rw [← HMM.out]; exact hvm) hr)
  rw [hlw] at HWM
  generalize windL L (px, py) = nn at *
  clear hlw HADD
  have HMK := Lib.hid (show ∀ (k : Nat) (r : List P2), L[k]? = some r → M[k]? = some (moveR (bx, by_) r) from fun k r hr => by
    rw [HMM.out]
    unfold transL
    rw [hv, if_pos rfl, List.getElem?_map, hr]
    rfl)
  go_wp2_with fail
  have hsz7 := hE57.size
  go_loopw [9] (fun i wr => ∃ k : Nat, k ≤ n ∧ i = .int .i64 k ∧ Ext w7 wr) (fun i _ => n - (intOf i).toNat)
  case atStart => exact ⟨0, Nat.zero_le _, rfl, Ext.refl w7⟩
  case round =>
    obtain ⟨k, hk, rfl, hEr⟩ := hrel
    by_cases hlt : k < n
    · obtain ⟨r, hlk⟩ : ∃ r, L[k]? = some r := ⟨_, List.getElem?_eq_getElem (by rw [← HN.out]; exact hlt)⟩
      have hmk := HMK.out k r hlk
      obtain ⟨b, o, rfl, hcell⟩ := hL (fun e => by rw [e] at hlk; simp at hlk)
      obtain ⟨v, c0, A1, c1, rfl, hlc1, hlb1, hP1⟩ := hcell k r hlk
      obtain ⟨b', o', rfl, hcell'⟩ := hR (fun e => by rw [e] at hmk; simp at hmk)
      obtain ⟨v', d0, A2, c2, rfl, hlc2, hlb2, hP2⟩ := hcell' k _ hmk
      have hEw := hE.trans hEr
      have hE5 := hE57.trans hEr
      have har := HAR.out r (List.mem_of_getElem? hlk)
      have H1 := Lib.hid (fun W (h : Ext wr W) => DoubleArea_any r A1 c1 _ W rfl hlc1 hlb1 ((hP1.ext hEw).ext h))
      have H2 := Lib.hid (fun W (h : Ext wr W) => DoubleArea_any (moveR (bx, by_) r) A2 c2 _ W rfl hlc2 hlb2 ((hP2.ext hE5).ext h))
      rw [har] at H2
      have e0 := hEw.cell c0
      have e1 := hE5.cell d0
      generalize areaS r = ar at *
      generalize r.length = m1 at *
      generalize (moveR (bx, by_) r).length = m2 at *
      clear hlk hmk hcell hcell' c0 d0 hP1 hP2 har
      go_wp2_with fail
      apply wp_region_par' 11 (by kernel_rfl) (by kernel_rfl) rfl
      simp only [List.take_succ_cons, List.take_zero, List.drop_succ_cons, List.drop_zero]
      generalize hW : World.drew _ = W
      have hEW : Ext wr W := by rw [← hW]; exact Ext.drew _
      clear hW
      have g0 := fun z : Later W => z.cell (hEW.cell e0)
      have g1 := fun z : Later W => z.cell (hEW.cell e1)
      clear e0 e1
      iterate 11
        refine parW_step rfl (fun K hK => ?_)
        apply Exists.intro
        refine ⟨fun z => ?_, ?_⟩
        focus
          go_simp
          first
            | rfl
            | with_reducible exact calls_val (H1.out _ (hEW.later z))
            | with_reducible exact calls_val (H2.out _ (hEW.later z))
        go_simp
        refine hK _ ?_
        clear hK K
      refine parW_end (fun z => ?_)
      have hE8 := hEr.trans (hEW.later z)
      go_wp2
      go_roundw
      case rel => exact ⟨k + 1, by omega, by go_num, hE8⟩
      case measure => simp [intOf]; omega
    · have hEw := hE.trans hEr
      have hE5 := hE57.trans hEr
      have D8 := D7.ext hEr; have C8 := C7.ext hEr
      go_wp2_with fail
      apply wp_region_par' 10 (by kernel_rfl) (by kernel_rfl) rfl
      simp only [List.take_succ_cons, List.take_zero, List.drop_succ_cons, List.drop_zero]
      generalize hW : World.drew _ = W
      have hEW : Ext wr W := by rw [← hW]; exact Ext.drew _
      clear hW
      have kD := (D8.ext hEW).lcell; have kC := (C8.ext hEW).lcell
      iterate 10
        refine parW_step rfl (fun K hK => ?_)
        apply Exists.intro
        refine ⟨fun z => ?_, ?_⟩
        focus
          go_simp
          first
            | rfl
            | with_reducible exact calls_val (HWM.out _ (hE5.trans (hEW.later z)))
            | with_reducible exact calls_val (HW.out _ (hEw.trans (hEW.later z)))
            | with_reducible exact calls_val (example_any _)
        go_simp
        refine hK _ ?_
        clear hK K
      refine parW_end (fun z => ?_)
      go_wp2
      go_ret
      exact ⟨rfl, hEw.trans (hEW.later z)⟩
end Go.Proofs.Ythfeamlioiaebaa
