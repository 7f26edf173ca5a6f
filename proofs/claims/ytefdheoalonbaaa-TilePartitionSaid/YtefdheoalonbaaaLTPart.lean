/- TilePartition: the walk. -/
import Derived.Test.YtefdheoalonbaaaPart
import Derived.Test.YtefdheoalonbaaaEx
set_option linter.unusedVariables false
set_option linter.unusedSimpArgs false
namespace Go.Proofs.Ytefdheoalonbaaa
open Go.RowKit Go.Par

set_option maxHeartbeats 800000 in
theorem within_any (a b c d p q r s : Int) (w : World) (h1 : rectEmptyS (a, b, c, d) = false) (h2 : rectEmptyS (p, q, r, s) = false) (i1 : p ≤ a) (i2 : c ≤ r) (i3 : q ≤ b) (i4 : d ≤ s) :
    Calls Try.prog 31 #[.agg #[.int .i64 a, .int .i64 b, .int .i64 c, .int .i64 d], .agg #[.int .i64 p, .int .i64 q, .int .i64 r, .int .i64 s]] w fun e w' => e = .returned (.bool true) ∧ Ext w w' := by
  have H1 := Lib.hid (fun W => rectEmpty_any a b c d W)
  have H2 := Lib.hid (fun W => rectEmpty_any p q r s W)
  rw [h1] at H1
  rw [h2] at H2
  clear h1 h2
  go_enter Try.func31, Try.ntmps31
  have b2 := (Box.new w 23 #[.int .i64 a, .int .i64 b, .int .i64 c, .int .i64 d]).alloc (.cells #[.int .i64 p, .int .i64 q, .int .i64 r, .int .i64 s] 23)
  have b3 := Box.at1 (w := w) (o := .cells #[.int .i64 a, .int .i64 b, .int .i64 c, .int .i64 d] 23) (t := 23) (cs := #[.int .i64 p, .int .i64 q, .int .i64 r, .int .i64 s])
  have hE := (Ext.alloc w (.cells #[.int .i64 a, .int .i64 b, .int .i64 c, .int .i64 d] 23)).trans (Ext.alloc _ (.cells #[.int .i64 p, .int .i64 q, .int .i64 r, .int .i64 s] 23))
  go_wp2_with fail
  refine (H1.out _).mono ?_
  rintro e w1 ⟨rfl, hE1⟩
  replace b2 := b2.ext hE1
  replace b3 := b3.ext hE1
  replace hE := hE.trans hE1
  clear hE1
  have c3 := b3.cell
  go_wp2_with fail
  refine (H2.out _).mono ?_
  rintro e w2 ⟨rfl, hE1⟩
  replace b2 := b2.ext hE1
  replace b3 := b3.ext hE1
  replace hE := hE.trans hE1
  clear hE1 c3
  have c2 := b2.cell
  have c3 := b3.cell
  go_wp2
  go_ret
  exact ⟨ret_eq rfl, hE⟩
theorem bounds_at {r : R4} {w h : Int} {k : Nat} {t : R4} (hk : (allT r w h)[k]? = some t) : boundsT r w h k = t := by
  unfold boundsT
  rw [if_neg (by omega), Int.toNat_natCast, List.getD_eq_getElem?_getD, hk]; rfl
theorem index_at {r : R4} {w h x y : Int} (hv : validT r w h = true) {k : Nat} {t : R4} (hk : (allT r w h)[k]? = some t) (hh : rectHasS t x y = true) : indexT r w h x y = k := by
  unfold indexT
  refine findT_some hk hh fun j hj q hq => ?_
  cases hb : rectHasS q x y
  · rfl
  · exact absurd (tile_uniq hv hq hk hb hh) (by omega)
set_option maxRecDepth 100000 in
set_option maxHeartbeats 1600000 in
theorem tilePartition_any (x0 y0 x1 y1 wd ht : Int) (w : World) (hw2 : wd ≤ 9223372036854775807) (hh2 : ht ≤ 9223372036854775807) :
    Calls Try.prog 7 #[.agg #[.int .i64 x0, .int .i64 y0, .int .i64 x1, .int .i64 y1], .int .i64 wd, .int .i64 ht] w fun e w' => e = .returned (.bool true) ∧ Ext w w' := by
  have HA := Lib.hid (fun W => rArea_any x0 y0 x1 y1 W)
  have HV := Lib.hid (fun W => pTileValid_any x0 y0 x1 y1 wd ht W)
  have HC := Lib.hid (fun W => pCount_any x0 y0 x1 y1 wd ht W hw2 hh2)
  have HB := Lib.hid (fun i W => pBounds_any x0 y0 x1 y1 wd ht i W hw2 hh2)
  have HI := Lib.hid (fun x y W => pIndexAt_any x0 y0 x1 y1 wd ht x y W hw2 hh2)
  have hab := areaR_bd (x0, y0, x1, y1)
  have hle := allT_le (x0, y0, x1, y1) wd ht
  obtain ⟨N, hN⟩ : ∃ N, (allT (x0, y0, x1, y1) wd ht).length = N := ⟨_, rfl⟩
  have HN := Lib.hid hN
  rw [hN] at HC hle
  obtain ⟨ar, har⟩ : ∃ ar, areaR (x0, y0, x1, y1) = ar := ⟨_, rfl⟩
  have HAR := Lib.hid har
  rw [har] at HA hab
  clear hN har
  go_enter Try.func7, Try.ntmps7
  have b3 := Box.new w 23 #[.int .i64 x0, .int .i64 y0, .int .i64 x1, .int .i64 y1]
  have hE := Ext.alloc w (.cells #[.int .i64 x0, .int .i64 y0, .int .i64 x1, .int .i64 y1] 23)
  go_wp2_with fail
  refine (HA.out _).mono ?_
  rintro e w1 ⟨rfl, hE1⟩
  replace b3 := b3.ext hE1
  replace hE := hE.trans hE1
  clear hE1
  by_cases h400 : 400 < ar
  · have d1 : (400 < ar) = True := eq_true h400
    go_wp2_with fail
    refine (example_any _).mono ?_
    rintro e w2 ⟨rfl, hE2⟩
    go_wp2
    go_ret
    exact ⟨rfl, hE.trans hE2⟩
  have d1 : (400 < ar) = False := eq_false h400
  have c3 := b3.cell
  go_wp2_with fail
  refine (HC.out _).mono ?_
  rintro e w2 ⟨rfl, hE1⟩
  replace b3 := b3.ext hE1
  replace hE := hE.trans hE1
  clear hE1 c3 h400 d1 HC
  have c3 := b3.cell
  go_wp2_with fail
  refine (HV.out _).mono ?_
  rintro e w3 ⟨rfl, hE1⟩
  replace b3 := b3.ext hE1
  replace hE := hE.trans hE1
  clear hE1 c3
  have c3 := b3.cell
  cases hv : validT (x0, y0, x1, y1) wd ht
  · have hT := allT_invalid hv
    have hN0 : N = 0 := by rw [← HN.out, hT]; rfl
    subst hN0
    have HB0 := Lib.hid (HB.out 0)
    have HI0 := Lib.hid (HI.out x0 y0)
    rw [show boundsT (x0, y0, x1, y1) wd ht 0 = (0, 0, 0, 0) from by unfold boundsT; rw [hT]; rfl] at HB0
    rw [show indexT (x0, y0, x1, y1) wd ht x0 y0 = -1 from by unfold indexT; rw [hT]; rfl] at HI0
    unfold rectV at HB0
    clear hT hv
    go_wp2_with fail
    refine (HB0.out _).mono ?_
    rintro e w4 ⟨rfl, hE1⟩
    replace b3 := b3.ext hE1
    replace hE := hE.trans hE1
    clear hE1 c3
    have c3 := b3.cell
    go_wp2_with fail
    refine (HI0.out _).mono ?_
    rintro e w5 ⟨rfl, hE1⟩
    replace hE := hE.trans hE1
    go_wp2_with fail
    refine (example_any _).mono ?_
    rintro e w6 ⟨rfl, hE2⟩
    go_wp2
    go_ret
    exact ⟨ret_eq rfl, hE.trans hE2⟩
  · have HVV := Lib.hid hv
    have HFT := Lib.hid (fun t ht2 => tile_facts hv (t := t) ht2)
    have HSUM := Lib.hid (sum_areas hv)
    rw [HAR.out] at HSUM
    have HEX := Lib.hid (fun x y => tile_ex hv (x := x) (y := y))
    obtain ⟨v1, v2, v3, v4⟩ := validT_true hv
    obtain ⟨g1, g2, g3, g4, g5, g6⟩ := empty_false v1
    have HEM := Lib.hid v1
    have HOUT := Lib.hid (show indexT (x0, y0, x1, y1) wd ht x1 y0 = -1 from by
      unfold indexT
      refine findT_none fun j q hq => ?_
      cases hb : rectHasS q x1 y0
      · rfl
      · have := canon_has.1 (tile_in hv (List.mem_of_getElem? hq) hb)
        have h3 := this.2.2.1
        exact absurd h3 (by show ¬ x1 < x1; omega))
    have hN1 : 1 ≤ N := by
      have hl := allT_length hv
      rw [HN.out] at hl
      rw [hl]
      obtain ⟨f1, f2, f3, f4, f5, f6, f7, f8⟩ := dims hv
      exact Nat.mul_pos (by omega) (by omega)
    have HIX := Lib.hid (fun x y k t => index_at hv (x := x) (y := y) (k := k) (t := t))
    clear v1 v4 hv HV
    dsimp only at g1 g2 g3 g4 g5 g6
    go_wp2_with fail
    go_loopw [8, 52] (fun s i wr => ∃ (k : Nat) (a : Int), k ≤ N ∧ i = .int .i64 k ∧ s = .int .i64 a ∧ Hid (a = (((allT (x0, y0, x1, y1) wd ht).take k).map areaR).sum) ∧ 0 ≤ a ∧ a ≤ (k : Int) * 67108864 ∧ Ext w3 wr) (fun _ i _ => N - (intOf i).toNat)
    case atStart => exact ⟨0, 0, Nat.zero_le _, rfl, rfl, Lib.hid rfl, by omega, by omega, Ext.refl _⟩
    case round =>
      obtain ⟨k, a, hk, rfl, rfl, HS, ha0, ha1, hE3⟩ := hrel
      have b3' := b3.ext hE3
      have hE4 := hE.trans hE3
      have c3 := b3'.cell
      by_cases hlt : k < N
      · have dk : ((k : Int) < (N : Int)) = True := eq_true (by omega)
        obtain ⟨t, hlx⟩ : ∃ q, (allT (x0, y0, x1, y1) wd ht)[k]? = some q := ⟨_, List.getElem?_eq_getElem (by rw [HN.out]; exact hlt)⟩
        have HB0 := Lib.hid (HB.out k)
        rw [bounds_at hlx] at HB0
        obtain ⟨t1, t2, t3, t4, t5, t6, t7⟩ := HFT.out t (List.mem_of_getElem? hlx)
        have hta := areaR_bd t
        have HS' := Lib.hid (show a + areaR t = (((allT (x0, y0, x1, y1) wd ht).take (k + 1)).map areaR).sum from by
          rw [List.take_add_one, hlx, HS.out, List.map_append, List.sum_append]
          simp)
        obtain ⟨r0, r1, r2, r3⟩ := t
        dsimp only at t2 t3 t4 t5 t6 t7
        unfold rectV at HB0
        have HE1 := Lib.hid (fun W => rectEmpty_any r0 r1 r2 r3 W)
        rw [t1] at HE1
        have HW := Lib.hid (fun W => within_any r0 r1 r2 r3 x0 y0 x1 y1 W t1 HEM.out t2 t3 t4 t5)
        have HA1 := Lib.hid (fun W => rArea_any r0 r1 r2 r3 W)
        obtain ⟨u1, u2, u3, u4, u5, u6⟩ := empty_false t1
        dsimp only at u1 u2 u3 u4 u5 u6
        generalize areaR (r0, r1, r2, r3) = ta at *
        have q1 : IntKind.i64.wrap (r2 - r0) = r2 - r0 := IntWalk.i64_in _ (by omega)
        have q2 : IntKind.i64.wrap (r3 - r1) = r3 - r1 := IntWalk.i64_in _ (by omega)
        have q3 : IntKind.i64.wrap (a + ta) = a + ta := IntWalk.i64_in _ (by omega)
        have d2 : (wd < r2 - r0) = False := eq_false (by omega)
        have d3 : (ht < r3 - r1) = False := eq_false (by omega)
        clear hlx t1 t2 t3 t4 t5 t6 t7
        go_wp2_with fail
        refine (HB0.out _).mono ?_
        rintro e w4 ⟨rfl, hE5⟩
        replace b3' := b3'.ext hE5
        clear c3
        have c3 := b3'.cell
        go_wp2_with fail
        have b10 := Box.new w4 23 #[.int .i64 r0, .int .i64 r1, .int .i64 r2, .int .i64 r3]
        replace b3' := b3'.alloc (.cells #[.int .i64 r0, .int .i64 r1, .int .i64 r2, .int .i64 r3] 23)
        have hE6 := (hE3.trans hE5).trans (Ext.alloc w4 (.cells #[.int .i64 r0, .int .i64 r1, .int .i64 r2, .int .i64 r3] 23))
        clear c3 hE5
        generalize hw5 : World.alloc w4 _ = w5 at *
        clear hw5
        generalize w4.heap.size = B10 at *
        refine (HE1.out _).mono ?_
        rintro e w6 ⟨rfl, hE5⟩
        replace b3' := b3'.ext hE5
        replace b10 := b10.ext hE5
        replace hE6 := hE6.trans hE5
        clear hE5
        have c3 := b3'.cell
        have c10 := b10.cell
        go_wp2_with fail
        refine (HW.out _).mono ?_
        rintro e w7 ⟨rfl, hE5⟩
        replace b3' := b3'.ext hE5
        replace b10 := b10.ext hE5
        replace hE6 := hE6.trans hE5
        clear hE5 c3 c10
        have c10 := b10.cell
        go_wp2_with fail
        refine (HA1.out _).mono ?_
        rintro e w8 ⟨rfl, hE5⟩
        replace hE6 := hE6.trans hE5
        go_wp2_with fail
        go_roundw
        case rel => exact ⟨k + 1, a + ta, by omega, by go_num, rfl, HS', by omega, by omega, hE6⟩
        case measure => simp [intOf]; omega
      · have dk : ((k : Int) < (N : Int)) = False := eq_false (by omega)
        have hkN : k = N := by omega
        have HSA := Lib.hid (show a = ar from by
          rw [HS.out, List.take_of_length_le (by rw [HN.out]; omega)]; exact HSUM.out)
        subst hkN
        clear HS HSUM hlt hk
        go_wp2_with fail
        generalize hwo : wr = wo at *
        clear hwo
        clear hE3 c3 dk HFT b3 hE
        go_loopw [11] (fun yv wr => ∃ y : Int, y0 ≤ y ∧ y ≤ y1 ∧ yv = .int .i64 y ∧ Ext wo wr) (fun yv _ => (y1 - intOf yv).toNat)
        case atStart => exact ⟨y0, Int.le_refl _, by omega, rfl, Ext.refl _⟩
        case round =>
          obtain ⟨y, hy0, hy1, rfl, hE5⟩ := hrel
          have b5 := b3'.ext hE5
          have c3 := b5.cell
          by_cases hy : y < y1
          · have dy : (y < y1) = True := eq_true hy
            have qy : IntKind.i64.wrap (y + 1) = y + 1 := IntWalk.i64_in _ (by omega)
            go_wp2_with fail
            clear c3 dy
            generalize hwp : wr = wp at *
            clear hwp
            go_loopw [12] (fun xv wr => ∃ x : Int, x0 ≤ x ∧ x ≤ x1 ∧ xv = .int .i64 x ∧ Ext wp wr) (fun xv _ => (x1 - intOf xv).toNat)
            case atStart => exact ⟨x0, Int.le_refl _, by omega, rfl, Ext.refl _⟩
            case round =>
              obtain ⟨x, hx0, hx1, rfl, hE6⟩ := hrel
              have b6 := b5.ext hE6
              have c3 := b6.cell
              by_cases hx : x < x1
              · have dx : (x < x1) = True := eq_true hx
                have qx : IntKind.i64.wrap (x + 1) = x + 1 := IntWalk.i64_in _ (by omega)
                obtain ⟨m, t, hm, ht⟩ := HEX.out x y (canon_has.2 ⟨HEM.out, hx0, hx, hy0, hy⟩)
                have HI1 := Lib.hid (HI.out x y)
                rw [HIX.out x y m t hm ht] at HI1
                have HB1 := Lib.hid (HB.out m)
                rw [bounds_at hm] at HB1
                have hml : m < k := by rw [← HN.out]; exact (List.getElem?_eq_some_iff.1 hm).1
                obtain ⟨r0, r1, r2, r3⟩ := t
                unfold rectV at HB1
                have HH := Lib.hid (fun W => rectHas_any r0 r1 r2 r3 x y W)
                rw [ht] at HH
                have dm : ((k : Int) ≤ (m : Int)) = False := eq_false (by omega)
                clear hm ht
                go_wp2_with fail
                refine (HI1.out _).mono ?_
                rintro e w5 ⟨rfl, hE7⟩
                replace b6 := b6.ext hE7
                replace hE6 := hE6.trans hE7
                clear hE7 c3
                have c3 := b6.cell
                go_wp2_with fail
                refine (HB1.out _).mono ?_
                rintro e w6 ⟨rfl, hE7⟩
                replace hE6 := hE6.trans hE7
                clear hE7 c3
                go_wp2_with fail
                refine (HH.out _).mono ?_
                rintro e w7 ⟨rfl, hE7⟩
                replace hE6 := hE6.trans hE7
                clear hE7
                go_wp2_with fail
                go_roundw
                case rel => exact ⟨x + 1, by omega, by omega, rfl, hE6⟩
                case measure => simp [intOf]; omega
              · have dx : (x < x1) = False := eq_false hx
                go_wp2_with fail
                go_roundw
                case rel => exact ⟨y + 1, by omega, by omega, rfl, hE5.trans hE6⟩
                case measure => simp [intOf]; omega
          · have dy : (y < y1) = False := eq_false hy
            have d5 : (1 ≤ (k : Int)) = True := eq_true (by omega)
            have d6 : ((k : Int) ≤ 256) = True := eq_true (by omega)
            have hE4' := hE4.trans hE5
            have HI1 := Lib.hid (HI.out x1 y0)
            rw [HOUT.out] at HI1
            have hsa := HSA.out
            subst hsa
            go_wp2_with fail
            refine (HA.out _).mono ?_
            rintro e w5 ⟨rfl, hE7⟩
            replace b5 := b5.ext hE7
            replace hE4' := hE4'.trans hE7
            clear hE7 c3
            have c3 := b5.cell
            go_wp2_with fail
            refine (HI1.out _).mono ?_
            rintro e w6 ⟨rfl, hE7⟩
            replace hE4' := hE4'.trans hE7
            go_wp2_with fail
            refine (example_any _).mono ?_
            rintro e w7 ⟨rfl, hE8⟩
            go_wp2
            go_ret
            exact ⟨ret_eq rfl, hE4'.trans hE8⟩
end Go.Proofs.Ytefdheoalonbaaa
