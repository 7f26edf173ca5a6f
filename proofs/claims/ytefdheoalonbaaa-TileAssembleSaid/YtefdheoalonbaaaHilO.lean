/- HilbertOrder in both. -/
import Derived.Test.YtefdheoalonbaaaHilR
set_option linter.unusedVariables false
set_option linter.unusedSimpArgs false
namespace Go.Proofs.Ytefdheoalonbaaa
open Go.RowKit Go.Par

set_option maxHeartbeats 800000 in
theorem grid_any (x0 y0 x1 y1 wd ht : Int) (w : World) (hem : rectEmptyS (x0, y0, x1, y1) = false) (hw : 1 ≤ wd) (hh : 1 ≤ ht) :
    Calls Try.prog 57 #[.agg #[.int .i64 x0, .int .i64 y0, .int .i64 x1, .int .i64 y1], .int .i64 wd, .int .i64 ht] w fun e w' => e = .returned (.tuple #[.int .i64 (timesS (x1 - x0) wd), .int .i64 (timesS (y1 - y0) ht)]) ∧ Ext w w' := by
  obtain ⟨b1, b2, b3, b4, b5, b6⟩ := empty_false hem
  simp only at b1 b2 b3 b4 b5 b6
  obtain ⟨t1, t2, _, _⟩ := times_facts (n := x1 - x0) (w := wd) (by omega) (by omega) (by omega)
  obtain ⟨t3, t4, _, _⟩ := times_facts (n := y1 - y0) (w := ht) (by omega) (by omega) (by omega)
  unfold timesS at t1 t2 t3 t4 ⊢
  have w1' : IntKind.i64.wrap (x1 - x0) = x1 - x0 := IntWalk.i64_in _ (by omega)
  have w2' : IntKind.i64.wrap (x1 - x0 - 1) = x1 - x0 - 1 := IntWalk.i64_in _ (by omega)
  have w3' : IntKind.i64.wrap (y1 - y0) = y1 - y0 := IntWalk.i64_in _ (by omega)
  have w4' : IntKind.i64.wrap (y1 - y0 - 1) = y1 - y0 - 1 := IntWalk.i64_in _ (by omega)
  generalize hq1 : (x1 - x0 - 1).tdiv wd = q1 at *
  generalize hq2 : (y1 - y0 - 1).tdiv ht = q2 at *
  have w5' : IntKind.i64.wrap q1 = q1 := IntWalk.i64_in _ (by omega)
  have w6' : IntKind.i64.wrap q2 = q2 := IntWalk.i64_in _ (by omega)
  have w7' : IntKind.i64.wrap (q1 + 1) = q1 + 1 := IntWalk.i64_in _ (by omega)
  have w8' : IntKind.i64.wrap (q2 + 1) = q2 + 1 := IntWalk.i64_in _ (by omega)
  have d3 : ¬ wd = 0 := by omega
  have d4 : ¬ ht = 0 := by omega
  clear t1 t2 t3 t4 b1 b2 b3 b4 b5 b6 hem
  go_enter Try.func57, Try.ntmps57
  go_wp2_with fail
  go_quiet (fail)
  go_wp2
  exact bodyPost_ret (v := .tuple #[.int .i64 (q1 + 1), .int .i64 (q2 + 1)]) (by simp [results, Try.results57, go_sem, List.size_toArray]) rfl ⟨rfl, (Ext.alloc _ _).drewN _⟩
def ordK (M : Nat) : Nat := ((List.range 9).find? (fun k => decide (M ≤ 2 ^ k))).getD 0
theorem ordK_eq {M k : Nat} (hk : k ≤ 8) (h1 : M ≤ 2 ^ k) (h2 : ∀ j, j < k → 2 ^ j < M) : ordK M = k := by
  have : (List.range 9).find? (fun k => decide (M ≤ 2 ^ k)) = some k := by
    rw [List.find?_range_eq_some]
    refine ⟨by simpa using h1, by simp; omega, fun j hj => ?_⟩
    simpa using h2 j hj
  unfold ordK
  rw [this]; rfl
def hilT (C R : Int) (l : List C2) : List Int := (l.filter fun q => decide (q.1 < C) && decide (q.2 < R)).map fun q => q.2 * C + q.1
def hilOrd (r : R4) (w h : Int) : List Int :=
  if validT r w h then hilT (timesS (r.2.2.1 - r.1) w) (timesS (r.2.2.2 - r.2.1) h) (hilF (ordK (max (timesS (r.2.2.1 - r.1) w) (timesS (r.2.2.2 - r.2.1) h)).toNat)) else []
theorem hilT_yes {C R : Int} {l : List C2} {k : Nat} {x y : Int} (h : l[k]? = some (x, y)) (h1 : x < C) (h2 : y < R) : hilT C R (l.take (k + 1)) = hilT C R (l.take k) ++ [y * C + x] := by
  unfold hilT
  rw [take_snocG h, List.filter_append, List.map_append]
  simp [h1, h2]
theorem hilT_no {C R : Int} {l : List C2} {k : Nat} {x y : Int} (h : l[k]? = some (x, y)) (h1 : ¬ (x < C ∧ y < R)) : hilT C R (l.take (k + 1)) = hilT C R (l.take k) := by
  unfold hilT
  rw [take_snocG h, List.filter_append, List.map_append]
  have : (decide (x < C) && decide (y < R)) = false := by simp only [Bool.and_eq_false_iff, decide_eq_false_iff_not]; omega
  simp [this]
theorem hilT_length (C R : Int) (l : List C2) : (hilT C R l).length ≤ l.length := by
  unfold hilT
  rw [List.length_map]
  exact List.length_filter_le _ _
theorem idx_bd {C R x y : Int} (h1 : 0 ≤ x) (h2 : x < C) (h3 : 0 ≤ y) (h4 : y < R) (h : C * R ≤ 256) : 0 ≤ y * C ∧ 0 ≤ y * C + x ∧ y * C + x < 256 ∧ y * C ≤ 256 ∧ y * C + x < C * R := by
  have a := Int.mul_nonneg h3 (show 0 ≤ C by omega)
  have b : y * C ≤ (R - 1) * C := Int.mul_le_mul_of_nonneg_right (by omega) (by omega)
  rw [Int.sub_mul, Int.one_mul, Int.mul_comm R C] at b
  omega
theorem dims {r : R4} {w h : Int} (hv : validT r w h = true) : rectEmptyS r = false ∧ 1 ≤ w ∧ 1 ≤ h ∧ 1 ≤ timesS (r.2.2.1 - r.1) w ∧ timesS (r.2.2.1 - r.1) w ≤ 256 ∧ 1 ≤ timesS (r.2.2.2 - r.2.1) h ∧ timesS (r.2.2.2 - r.2.1) h ≤ 256 ∧ timesS (r.2.2.1 - r.1) w * timesS (r.2.2.2 - r.2.1) h ≤ 256 := by
  obtain ⟨h1, h2, h3, h4⟩ := validT_true hv
  obtain ⟨b1, b2, b3, b4, b5, b6⟩ := empty_false h1
  obtain ⟨t1, _⟩ := times_facts (n := r.2.2.1 - r.1) (w := w) (by omega) (by omega) h2
  obtain ⟨t3, _⟩ := times_facts (n := r.2.2.2 - r.2.1) (w := h) (by omega) (by omega) h3
  generalize timesS (r.2.2.1 - r.1) w = C at *
  generalize timesS (r.2.2.2 - r.2.1) h = R at *
  have a : C * 1 ≤ C * R := Int.mul_le_mul_of_nonneg_left t3 (by omega)
  have b : 1 * R ≤ C * R := Int.mul_le_mul_of_nonneg_right t1 (by omega)
  exact ⟨h1, h2, h3, t1, by omega, t3, by omega, h4⟩
set_option maxRecDepth 100000 in
set_option maxHeartbeats 1600000 in
theorem HilbertOrder_any (x0 y0 x1 y1 wd ht : Int) (w : World) :
    Calls Try.prog 38 #[.agg #[.int .i64 x0, .int .i64 y0, .int .i64 x1, .int .i64 y1], .int .i64 wd, .int .i64 ht] w fun e w' => ∃ v, e = .returned v ∧ Ext w w' ∧ intE.Own w' w.heap.size v (hilOrd (x0, y0, x1, y1) wd ht) := by
  have HV := Lib.hid (fun W => pTileValid_any x0 y0 x1 y1 wd ht W)
  have HA := Lib.hid (show hilOrd (x0, y0, x1, y1) wd ht = if validT (x0, y0, x1, y1) wd ht then hilT (timesS (x1 - x0) wd) (timesS (y1 - y0) ht) (hilF (ordK (max (timesS (x1 - x0) wd) (timesS (y1 - y0) ht)).toNat)) else [] from rfl)
  go_enter Try.func38, Try.ntmps38
  go_wp2_with fail
  refine (HV.out _).mono ?_
  rintro e w1 ⟨rfl, hE⟩
  have bR := (Box.new w 23 #[.int .i64 x0, .int .i64 y0, .int .i64 x1, .int .i64 y1]).ext hE
  replace hE := (Ext.alloc _ _).trans hE
  have cR := bR.cell
  cases hv : validT (x0, y0, x1, y1) wd ht
  · have HR := Lib.hid (show hilOrd (x0, y0, x1, y1) wd ht = [] from by rw [HA.out, hv]; rfl)
    clear hv HA HV
    go_wp2
    go_ret
    exact ⟨_, rfl, hE, by rw [HR.out]; exact EL.Own.nil _ _⟩
  · obtain ⟨f1, f2, f3, f4, f5, f6, f7, f8⟩ := dims hv
    simp only at f4 f5 f6 f7 f8
    rw [hv, if_pos rfl] at HA
    have HG := Lib.hid (fun W => grid_any x0 y0 x1 y1 wd ht W f1 f2 f3)
    generalize timesS (x1 - x0) wd = C at *
    generalize timesS (y1 - y0) ht = R at *
    clear hv HV f1 f2 f3
    go_wp2_with fail
    refine (HG.out _).mono ?_
    rintro e w2 ⟨rfl, hE2⟩
    replace hE := hE.trans hE2
    clear HG hE2 bR cR
    obtain ⟨M, hM⟩ : ∃ M : Nat, (M : Int) = max C R := ⟨(max C R).toNat, by omega⟩
    have hM1 : (if C < R then R else C) = (M : Int) := by split <;> omega
    have hM2 : M ≤ 256 := by omega
    have hM3 : 1 ≤ M := by omega
    have hM4 : (if R < C then C else R) = (M : Int) := by split <;> omega
    rw [← hM, Int.toNat_natCast] at HA
    clear hM
    go_wp2_with fail
    go_loopw [9] (fun s wr => wr = w2 ∧ ∃ (k n : Nat), s = .int .i64 n ∧ Hid (n = 2 ^ k ∧ k ≤ 8 ∧ ∀ j, j < k → 2 ^ j < M)) (fun s _ => M - (intOf s).toNat)
    case atStart => exact ⟨rfl, 0, 1, rfl, Lib.hid ⟨rfl, by omega, fun j hj => by omega⟩⟩
    case round =>
      obtain ⟨rfl, k, n, rfl, HK⟩ := hrel
      by_cases hlt : n < M
      · have dn : ((n : Int) < (M : Int)) = True := eq_true (by omega)
        have q1 : IntKind.i64.wrap ((n : Int) * 2) = (n : Int) * 2 := IntWalk.i64_in _ (by omega)
        have hn1 : 1 ≤ n := by rw [HK.out.1]; exact Nat.one_le_two_pow
        have HK' := Lib.hid (show 2 * n = 2 ^ (k + 1) ∧ k + 1 ≤ 8 ∧ ∀ j, j < k + 1 → 2 ^ j < M from by
          refine ⟨by rw [HK.out.1, Nat.pow_succ]; omega, ?_, fun j hj => ?_⟩
          · refine Nat.lt_of_not_le fun h8 => ?_
            have := Nat.pow_le_pow_right (show 0 < 2 by decide) (show 8 ≤ k by omega)
            rw [← HK.out.1] at this
            omega
          · rcases Nat.lt_succ_iff_lt_or_eq.1 hj with h | rfl
            · exact HK.out.2.2 j h
            · rw [← HK.out.1]; exact hlt)
        go_wp2
        go_roundw
        case rel => exact ⟨by trivial, k + 1, 2 * n, by go_num, HK'⟩
        case measure => simp [intOf]; omega
      · have dn : ((n : Int) < (M : Int)) = False := eq_false (by omega)
        have e := ordK_eq HK.out.2.1 (show M ≤ 2 ^ k by rw [← HK.out.1]; omega) HK.out.2.2
        rw [e] at HA
        have HH := Lib.hid (fun W => hilbert_any k W HK.out.2.1)
        rw [← HK.out.1] at HH
        have hbd := hilF_bd k
        have hln : (hilF k).length ≤ 65536 := by
          rw [hilF_length]
          exact Nat.le_trans (Nat.pow_le_pow_right (by decide) HK.out.2.1) (by decide)
        generalize hilF k = l at *
        have HBD := Lib.hid hbd
        obtain ⟨m, hm⟩ : ∃ m, m = l.length := ⟨_, rfl⟩
        have HM := Lib.hid hm
        rw [← hm] at hln
        clear hbd hm e hlt HK
        go_wp2_with fail
        refine (HH.out _).mono ?_
        rintro e w3 ⟨v, rfl, hE3, hownl⟩
        obtain ⟨A, c, rfl, hlc, hat⟩ := hownl.at HM.out.symm (by omega)
        have hE' := hE.trans hE3
        clear hownl HH dn hM1 hM4
        go_wp2_with fail
        go_loopw [10, 12, 35] (fun s _ i wr => ∃ j : Nat, j ≤ m ∧ i = .int .i64 j ∧ Ext w3 wr ∧ intE.Own wr w3.heap.size s (hilT C R (l.take j))) (fun _ _ i _ => m - (intOf i).toNat)
        case atStart => exact ⟨0, Nat.zero_le _, rfl, Ext.refl _, EL.Own.nil _ _⟩
        case round =>
          obtain ⟨j, hj, rfl, hE4, hown⟩ := hrel
          by_cases hlt : j < m
          · obtain ⟨⟨x, y⟩, hlx⟩ : ∃ q, l[j]? = some q := ⟨_, List.getElem?_eq_getElem (by rw [← HM.out]; exact hlt)⟩
            obtain ⟨b, o, rfl, hcell⟩ := hat (fun e => by rw [e] at hlx; simp at hlx)
            obtain ⟨r1, r2, r3, r4⟩ := HBD.out _ (List.mem_of_getElem? hlx)
            obtain ⟨e0, e1⟩ := cell_cells hcell hlx
            replace e0 := hE4.cell e0
            replace e1 := hE4.cell e1
            simp only at e0 e1 r1 r2 r3 r4
            have hsz := hE4.size
            by_cases hx : x < C
            · by_cases hy : y < R
              · obtain ⟨i1, i2, i3, i4, _⟩ := idx_bd r1 hx r3 hy f8
                have q1 : IntKind.i64.wrap (y * C) = y * C := IntWalk.i64_in _ (by omega)
                have q2 : IntKind.i64.wrap (y * C + x) = y * C + x := IntWalk.i64_in _ (by omega)
                have HS := Lib.hid (hilT_yes hlx hx hy)
                have hlen : (hilT C R (l.take j)).length + 1 ≤ 1000000000 := by
                  have := hilT_length C R (l.take j)
                  rw [List.length_take] at this
                  omega
                clear hcell hlx i1 i2 i3 i4 hat
                go_wp2_with (at_builtin; refine EL.wpApp intE rfl _ _ rfl w3.heap.size _ _ _ _ rfl rfl (hown.ext ((Ext.alloc _ _).trans (Ext.alloc _ _))) (intE_one Box.at1) hlen (by simp; omega) ?_; intro v' w' hown' hg _)
                have hE5 := growExt (hE4.trans ((Ext.alloc _ _).trans (Ext.alloc _ _))) (hown.ext ((Ext.alloc _ _).trans (Ext.alloc _ _))) (Nat.le_refl _) hg
                go_roundw
                case rel => exact ⟨j + 1, by omega, by go_num, hE5, by rw [HS.out]; exact hown'⟩
                case measure => simp [intOf]; omega
              · have d2 : (y < R) = False := eq_false hy
                have HS := Lib.hid (hilT_no (C := C) (R := R) hlx (fun h => hy h.2))
                clear hcell hlx hat
                go_wp2_with fail
                go_roundw
                case rel => exact ⟨j + 1, by omega, by go_num, hE4.trans (Ext.alloc _ _), by rw [HS.out]; exact hown.ext (Ext.alloc _ _)⟩
                case measure => simp [intOf]; omega
            · have d2 : (x < C) = False := eq_false hx
              have HS := Lib.hid (hilT_no (C := C) (R := R) hlx (fun h => hx h.1))
              clear hcell hlx hat
              go_wp2_with fail
              go_roundw
              case rel => exact ⟨j + 1, by omega, by go_num, hE4.trans (Ext.alloc _ _), by rw [HS.out]; exact hown.ext (Ext.alloc _ _)⟩
              case measure => simp [intOf]; omega
          · have d1 : ((j : Int) < (m : Int)) = False := eq_false (by omega)
            have hfin : l.take j = l := List.take_of_length_le (by rw [← HM.out]; omega)
            rw [hfin] at hown
            clear hfin
            go_wp2
            go_ret
            exact ⟨_, rfl, hE'.trans hE4, by rw [HA.out]; exact hown.lower hE'.size⟩
end Go.Proofs.Ytefdheoalonbaaa
