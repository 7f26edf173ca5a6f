/- tile.ZOrder. -/
import Derived.Test.YtefdheoalonbaaaZLaw
import Derived.Test.YtefdheoalonbaaaZcmp
import Derived.Test.YtefdheoalonbaaaHilO
set_option linter.unusedVariables false
set_option linter.unusedSimpArgs false
namespace Go.Proofs.Ytefdheoalonbaaa
open Go.RowKit Go.Par Go.Sort Go.Lib

set_option maxRecDepth 100000 in
set_option maxHeartbeats 1600000 in
theorem ZOrder_any (x0 y0 x1 y1 wd ht : Int) (w : World) :
    Calls Try.prog 36 #[.agg #[.int .i64 x0, .int .i64 y0, .int .i64 x1, .int .i64 y1], .int .i64 wd, .int .i64 ht] w fun e w' => ∃ v, e = .returned v ∧ Ext w w' ∧ intE.Own w' w.heap.size v (zOrd (x0, y0, x1, y1) wd ht) := by
  have HV := Lib.hid (fun W => pTileValid_any x0 y0 x1 y1 wd ht W)
  have HA := Lib.hid (show zOrd (x0, y0, x1, y1) wd ht = if validT (x0, y0, x1, y1) wd ht then natL (zF (timesS (x1 - x0) wd).toNat ((timesS (x1 - x0) wd).toNat * (timesS (y1 - y0) ht).toNat)) else [] from rfl)
  go_enter Try.func36, Try.ntmps36
  go_wp2_with fail
  refine (HV.out _).mono ?_
  rintro e w1 ⟨rfl, hE⟩
  have bR := (Box.new w 23 #[.int .i64 x0, .int .i64 y0, .int .i64 x1, .int .i64 y1]).ext hE
  replace hE := (Ext.alloc _ _).trans hE
  have cR := bR.cell
  cases hv : validT (x0, y0, x1, y1) wd ht
  · have HR := Lib.hid (show zOrd (x0, y0, x1, y1) wd ht = [] from by rw [HA.out, hv]; rfl)
    clear hv HA HV
    go_wp2
    go_ret
    exact ⟨_, rfl, hE, by rw [HR.out]; exact EL.Own.nil _ _⟩
  · obtain ⟨f1, f2, f3, f4, f5, f6, f7, f8⟩ := dims hv
    simp only at f4 f5 f6 f7 f8
    rw [hv, if_pos rfl] at HA
    have HG := Lib.hid (fun W => grid_any x0 y0 x1 y1 wd ht W f1 f2 f3)
    generalize timesS (x1 - x0) wd = Ci at *
    generalize timesS (y1 - y0) ht = Ri at *
    obtain ⟨C, rfl⟩ : ∃ C : Nat, Ci = C := ⟨Ci.toNat, by omega⟩
    obtain ⟨R, rfl⟩ : ∃ R : Nat, Ri = R := ⟨Ri.toNat, by omega⟩
    rw [Int.toNat_natCast, Int.toNat_natCast] at HA
    clear hv HV f1 f2 f3
    have g4 : 1 ≤ C := by omega
    have g5 : C ≤ 256 := by omega
    have g6 : 1 ≤ R := by omega
    have g8 : C * R ≤ 256 := by
      have : ((C * R : Nat) : Int) = (C : Int) * (R : Int) := Int.natCast_mul _ _
      omega
    have g9 : 1 ≤ C * R := Nat.mul_pos g4 g6
    obtain ⟨N, hN⟩ : ∃ N, N = C * R := ⟨_, rfl⟩
    have qN : IntKind.i64.wrap ((C : Int) * (R : Int)) = (N : Int) := by
      have : ((C * R : Nat) : Int) = (C : Int) * (R : Int) := Int.natCast_mul _ _
      rw [← this, ← hN]
      exact IntWalk.i64_in _ (by omega)
    rw [← hN] at HA g8 g9
    have HN := Lib.hid hN
    clear hN f4 f5 f6 f7 f8
    go_wp2_with fail
    refine (HG.out _).mono ?_
    rintro e w2 ⟨rfl, hE2⟩
    replace hE := hE.trans hE2
    clear HG hE2 bR cR
    have bC := Box.new w2 3 #[.int .i64 C]
    have hE' := hE.trans (Ext.alloc w2 (.cells #[.int .i64 C] 3))
    generalize hwo : w2.alloc (.cells #[.int .i64 C] 3) = wo at *
    have hszo : wo.heap.size = w2.heap.size + 1 := by rw [← hwo]; simp
    have cC := bC.cell
    go_wp2_with fail
    clear cC
    clear hwo
    go_loopw [9, 10, 26] (fun s _ i wr => ∃ k : Nat, k ≤ N ∧ i = .int .i64 k ∧ Ext wo wr ∧ intE.Own wr wo.heap.size s (iotaL k)) (fun _ _ i _ => N - (intOf i).toNat)
    case atStart => exact ⟨0, Nat.zero_le _, rfl, Ext.refl _, EL.Own.nil _ _⟩
    case round =>
      obtain ⟨k, hk, rfl, hE3, hown⟩ := hrel
      by_cases hlt : k < N
      · have hlen : (iotaL k).length + 1 ≤ 1000000000 := by rw [iotaL_length]; omega
        have hsz := hE3.size
        have q1 : IntKind.i64.wrap ((k : Int) + 1) = (k : Int) + 1 := IntWalk.i64_in _ (by omega)
        go_wp2_with (at_builtin; refine EL.wpApp intE rfl _ _ rfl wo.heap.size _ _ _ _ rfl rfl (hown.ext (Ext.alloc _ _)) (intE_one (Box.new _ _ _)) hlen (by simp; omega) ?_; intro v' w' hown' hg _)
        have hE4 := growExt (hE3.trans (Ext.alloc _ _)) (hown.ext (Ext.alloc _ _)) (Nat.le_refl _) hg
        go_roundw
        case rel => exact ⟨k + 1, by omega, by go_num, hE4, by rw [iotaL_succ]; exact hown'⟩
        case measure => simp [intOf]; omega
      · have d1 : ((k : Int) < (N : Int)) = False := eq_false (by omega)
        obtain rfl : k = N := by omega
        obtain ⟨g, cap, rfl, hgB, hgc⟩ := hown.head (by rw [iotaL_length]; omega)
        rw [iotaL_length]
        rw [iotaL_length, ← iotaF_of k g8] at hown
        have hcC := (bC.ext hE3).cell 0
        have hgne : w2.heap.size ≠ g := by omega
        have HSORT := sortInt_any hown (by omega) 59 #[.pointer (some ⟨w2.heap.size, 0, none⟩)] (fun x => ((keyT C x.val : Nat) : Int)) (enters_of Try.func59 (by kernel_rfl) rfl)
          (fun m os dk _ x y => (zcmp_d x.val y.val C w2.heap.size _ x.isLt y.isLt g4 g5 ((((but_putRow encF 0 m dk).trans (But.of_ext (ext_grow _ os))).cell hcC hgne))).mono fun e w' ⟨h1, h2⟩ => ⟨h1, extD_grow h2⟩)
        have HS := Lib.hid HSORT
        clear HSORT hcC
        go_wp2_with fail
        refine HS.out.mono ?_
        rintro e w3 ⟨rfl, l', hp, hs, hown3, hbut⟩
        have hz := z_unique (C := C) (R := R) g4 (by rw [← HN.out]; exact g8) (by rw [← HN.out]; exact (hp.map (·.val)).trans (by rw [iotaF_val k g8])) hs
        have hz2 : ofF l' = natL (zF C k) := by
          rw [HN.out, ← hz]
          unfold ofF natL
          rw [List.map_map]; rfl
        rw [hz2] at hown3
        have hsz0 := hE'.size
        have hEf := (hE'.trans hE3).but hbut (by omega)
        clear hs hp hz hz2 HS
        go_wp2
        go_ret
        exact ⟨_, rfl, hEf, by rw [HA.out]; exact hown3.lower hE'.size⟩
end Go.Proofs.Ytefdheoalonbaaa
