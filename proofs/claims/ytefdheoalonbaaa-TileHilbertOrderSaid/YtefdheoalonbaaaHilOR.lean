/- The reference's HilbertOrder. -/
import Derived.Test.YtefdheoalonbaaaOrds
import Derived.Test.YtefdheoalonbaaaHilR
import Derived.Test.YtefdheoalonbaaaHilO
set_option linter.unusedVariables false
set_option linter.unusedSimpArgs false
namespace Go.Proofs.Ytefdheoalonbaaa
open Go.RowKit Go.Par

set_option maxRecDepth 100000 in
set_option maxHeartbeats 1600000 in
theorem rHilbertOrder_any (x0 y0 x1 y1 wd ht : Int) (w : World) :
    Calls Try.prog 39 #[.agg #[.int .i64 x0, .int .i64 y0, .int .i64 x1, .int .i64 y1], .int .i64 wd, .int .i64 ht] w fun e w' => ∃ v, e = .returned v ∧ Ext w w' ∧ intE.Own w' w.heap.size v (hilOrd (x0, y0, x1, y1) wd ht) := by
  have HV := Lib.hid (fun W => rTileValid_any x0 y0 x1 y1 wd ht W)
  have HA := Lib.hid (show hilOrd (x0, y0, x1, y1) wd ht = if validT (x0, y0, x1, y1) wd ht then hilT (timesS (x1 - x0) wd) (timesS (y1 - y0) ht) (hilF (ordK (max (timesS (x1 - x0) wd) (timesS (y1 - y0) ht)).toNat)) else [] from rfl)
  go_enter Try.func39, Try.ntmps39
  go_wp2_with fail
  refine (HV.out _).mono ?_
  rintro e w1 ⟨rfl, hE⟩
  have bR := (Box.new w 23 #[.int .i64 x0, .int .i64 y0, .int .i64 x1, .int .i64 y1]).ext hE
  replace hE := (Ext.alloc _ _).trans hE
  have cR := bR.cell
  cases hv : validT (x0, y0, x1, y1) wd ht
  · have HR := Lib.hid (show hilOrd (x0, y0, x1, y1) wd ht = [] from by rw [HA.out, hv]; rfl)
    clear hv HA HV
    go_wp2
    go_ret
    exact ⟨_, rfl, hE, by rw [HR.out]; exact EL.Own.nil _ _⟩
  · obtain ⟨f1, f2, f3, f4, f5, f6, f7, f8⟩ := dims hv
    obtain ⟨b1, b2, b3, b4, b5, b6⟩ := empty_false f1
    simp only at f4 f5 f6 f7 f8 b1 b2 b3 b4 b5 b6
    rw [hv, if_pos rfl] at HA
    have HT1 := Lib.hid (fun W => times_any (x1 - x0) wd W (by omega) (by omega) f2)
    have HT2 := Lib.hid (fun W => times_any (y1 - y0) ht W (by omega) (by omega) f3)
    have w1' : IntKind.i64.wrap (x1 - x0) = x1 - x0 := IntWalk.i64_in _ (by omega)
    have w3' : IntKind.i64.wrap (y1 - y0) = y1 - y0 := IntWalk.i64_in _ (by omega)
    generalize timesS (x1 - x0) wd = C at *
    generalize timesS (y1 - y0) ht = R at *
    clear hv HV f1 f2 f3 b1 b2 b3 b4 b5 b6
    go_wp2_with fail
    refine (HT1.out _).mono ?_
    rintro e w2 ⟨rfl, rfl⟩
    go_wp2_with fail
    refine (HT2.out _).mono ?_
    rintro e w2 ⟨rfl, rfl⟩
    clear HT1 HT2 bR cR w1' w3'
    obtain ⟨M, hM⟩ : ∃ M : Nat, (M : Int) = max C R := ⟨(max C R).toNat, by omega⟩
    have hM2 : M ≤ 256 := by omega
    have hM3 : 1 ≤ M := by omega
    rw [← hM, Int.toNat_natCast] at HA
    have hM5 : max C R = (M : Int) := hM.symm
    clear hM
    go_wp2_with fail
    go_loopw [9] (fun s wr => wr = w1 ∧ ∃ (k n : Nat), s = .int .i64 k ∧ k ≤ 8 ∧ Hid (n = 2 ^ k ∧ ∀ j, j < k → 2 ^ j < M)) (fun s _ => 8 - (intOf s).toNat)
    case atStart => exact ⟨rfl, 0, 1, rfl, by omega, Lib.hid ⟨rfl, fun j hj => by omega⟩⟩
    case round =>
      obtain ⟨rfl, k, n, rfl, hk8, HK⟩ := hrel
      have hn1 : 1 ≤ n := by rw [HK.out.1]; exact Nat.one_le_two_pow
      have hn2 : n ≤ 256 := by rw [HK.out.1]; exact Nat.le_trans (Nat.pow_le_pow_right (show 0 < 2 by decide) hk8) (by decide)
      have q0 : IntKind.i64.wrap (n : Int) = (n : Int) := IntWalk.i64_in _ (by omega)
      have q00 : wrap64 (n : Int) = (n : Int) := IntWalk.wrap64_in _ (by omega)
      have e2 : ((2 : Int) ^ k) = (n : Int) := by rw [HK.out.1]; exact (Int.natCast_pow 2 k).symm
      by_cases hlt : n < M
      · have dn : ((n : Int) < (M : Int)) = True := eq_true (by omega)
        have q1 : IntKind.i64.wrap ((k : Int) + 1) = (k : Int) + 1 := IntWalk.i64_in _ (by omega)
        have hk7 : k + 1 ≤ 8 := by
          refine Nat.lt_of_not_le fun h8 => ?_
          have := Nat.pow_le_pow_right (show 0 < 2 by decide) (show 8 ≤ k by omega)
          rw [← HK.out.1] at this
          omega
        have E2 := Lib.hid e2
        clear e2
        have HK' := Lib.hid (show 2 * n = 2 ^ (k + 1) ∧ ∀ j, j < k + 1 → 2 ^ j < M from by
          refine ⟨by rw [HK.out.1, Nat.pow_succ]; omega, fun j hj => ?_⟩
          rcases Nat.lt_succ_iff_lt_or_eq.1 hj with h | rfl
          · exact HK.out.2 j h
          · rw [← HK.out.1]; exact hlt)
        have e2 := E2.out
        go_wp2
        clear e2
        go_roundw
        case rel => exact ⟨by trivial, k + 1, 2 * n, by go_num, hk7, HK'⟩
        case measure => simp [intOf]; omega
      · have dn : ((n : Int) < (M : Int)) = False := eq_false (by omega)
        have e := ordK_eq hk8 (show M ≤ 2 ^ k by rw [← HK.out.1]; omega) HK.out.2
        rw [e] at HA
        have HH := Lib.hid (fun W => rhilbert_any k W hk8)
        have hbd := hilF_bd k
        have hln : (hilF k).length ≤ 65536 := by
          rw [hilF_length]
          exact Nat.le_trans (Nat.pow_le_pow_right (by decide) hk8) (by decide)
        generalize hilF k = l at *
        have HBD := Lib.hid hbd
        obtain ⟨m, hm⟩ : ∃ m, m = l.length := ⟨_, rfl⟩
        have HM := Lib.hid hm
        rw [← hm] at hln
        clear hbd hm e hlt HK
        go_wp2_with fail
        refine (HH.out _).mono ?_
        rintro e w3 ⟨v, rfl, hE3, hownl⟩
        obtain ⟨A, c, rfl, hlc, hat⟩ := hownl.at HM.out.symm (by omega)
        have hE' := hE.trans hE3
        clear hownl HH dn hM5 e2 q0 q00
        go_wp2_with fail
        go_loopw [11, 12] (fun s i wr => ∃ j : Nat, j ≤ m ∧ i = .int .i64 j ∧ Ext w3 wr ∧ intE.Own wr w3.heap.size s (hilT C R (l.take j))) (fun _ i _ => m - (intOf i).toNat)
        case atStart => exact ⟨0, Nat.zero_le _, rfl, Ext.refl _, EL.Own.nil _ _⟩
        case round =>
          obtain ⟨j, hj, rfl, hE4, hown⟩ := hrel
          by_cases hlt : j < m
          · obtain ⟨⟨x, y⟩, hlx⟩ : ∃ q, l[j]? = some q := ⟨_, List.getElem?_eq_getElem (by rw [← HM.out]; exact hlt)⟩
            obtain ⟨b, o, rfl, hcell⟩ := hat (fun e => by rw [e] at hlx; simp at hlx)
            obtain ⟨r1, r2, r3, r4⟩ := HBD.out _ (List.mem_of_getElem? hlx)
            obtain ⟨e0, e1⟩ := pair_cells hcell hlx
            replace e0 := hE4.cell e0
            replace e1 := hE4.cell e1
            simp only at e0 e1 r1 r2 r3 r4
            have hsz := hE4.size
            by_cases hx : x < C
            · by_cases hy : y < R
              · obtain ⟨i1, i2, i3, i4, _⟩ := idx_bd r1 hx r3 hy f8
                have q1 : IntKind.i64.wrap (y * C) = y * C := IntWalk.i64_in _ (by omega)
                have q2 : IntKind.i64.wrap (y * C + x) = y * C + x := IntWalk.i64_in _ (by omega)
                have HS := Lib.hid (hilT_yes hlx hx hy)
                have hlen : (hilT C R (l.take j)).length + 1 ≤ 1000000000 := by
                  have := hilT_length C R (l.take j)
                  rw [List.length_take] at this
                  omega
                clear hcell hlx i1 i2 i3 i4 hat
                go_wp2_with fail
                apply wp_region_par' 15 (by kernel_rfl) (by kernel_rfl) rfl
                simp only [List.take_succ_cons, List.take_zero, List.drop_succ_cons, List.drop_zero]
                generalize hW : World.drew _ = W
                have hEW1 : Ext wr W := by rw [← hW]; exact Ext.drew _
                clear hW
                replace e0 := fun z : Later W => z.cell (hEW1.cell e0)
                replace e1 := fun z : Later W => z.cell (hEW1.cell e1)
                iterate 14
                  refine parW_step rfl (fun K hK => ?_)
                  apply Exists.intro
                  refine ⟨fun z => ?_, ?_⟩
                  focus
                    go_simp
                    first
                      | rfl
                      | fail
                  go_simp
                  refine hK _ ?_
                  clear hK K
                refine parW_newRow (t := 3) (n := 1) (cs := #[.int .i64 (y * C + x)]) rfl rfl rfl (by simp) (fun w1 => by kernel_rfl) ?_
                refine parW_fin (fun z => ?_)
                rintro v1 ⟨b0, rfl, hb0, hbx⟩ hp
                clear hp
                have hWZ := z.prop
                generalize z.val = Z at *
                clear z e0 e1
                have hEZ := hEW1.trans hWZ
                have hownZ := hown.ext hEZ
                have hszZ := hEZ.size
                simp only [Act.put, List.setIfInBounds_toArray, List.set_cons_succ, List.set_cons_zero]
                go_wp2_with (at_builtin; refine EL.wpApp intE rfl _ _ rfl w3.heap.size _ _ _ _ rfl rfl hownZ (intE_one hbx) hlen (by omega) ?_; intro v' w' hown' hg _)
                have hE5 := growExt (hE4.trans hEZ) hownZ (Nat.le_refl _) hg
                go_roundw
                case rel => exact ⟨j + 1, by omega, by go_num, hE5, by rw [HS.out]; exact hown'⟩
                case measure => simp [intOf]; omega
              · have d2 : (y < R) = False := eq_false hy
                have HS := Lib.hid (hilT_no (C := C) (R := R) hlx (fun h => hy h.2))
                clear hcell hlx hat
                go_wp2_with fail
                go_roundw
                case rel => exact ⟨j + 1, by omega, by go_num, hE4, by rw [HS.out]; exact hown⟩
                case measure => simp [intOf]; omega
            · have d2 : (x < C) = False := eq_false hx
              have HS := Lib.hid (hilT_no (C := C) (R := R) hlx (fun h => hx h.1))
              clear hcell hlx hat
              go_wp2_with fail
              go_roundw
              case rel => exact ⟨j + 1, by omega, by go_num, hE4, by rw [HS.out]; exact hown⟩
              case measure => simp [intOf]; omega
          · have d1 : ((j : Int) < (m : Int)) = False := eq_false (by omega)
            have hfin : l.take j = l := List.take_of_length_le (by rw [← HM.out]; omega)
            rw [hfin] at hown
            clear hfin
            go_wp2
            go_ret
            exact ⟨_, rfl, hE'.trans hE4, by rw [HA.out]; exact hown.lower hE'.size⟩
end Go.Proofs.Ytefdheoalonbaaa
