/- Tiles of the reference. -/
import Derived.Test.YtkjpcjmbhpfelaaRgTouch
set_option linter.unusedVariables false
set_option linter.unusedSimpArgs false
namespace Go.Proofs.Ytkjpcjmbhpfelaa
open Go.RowKit Go.Par Go.Reg

set_option maxRecDepth 100000 in
set_option maxHeartbeats 1600000 in
theorem rTiles_any (r0 r1 r2 r3 wd ht : Int) (w : World) :
    Calls Try.prog 64 #[.agg #[.int .i64 r0, .int .i64 r1, .int .i64 r2, .int .i64 r3], .int .i64 wd, .int .i64 ht] w fun e w' => ∃ v, e = .returned v ∧ Ext w w' ∧ rectE.Own w' w.heap.size v (tileL (r0, r1, r2, r3) wd ht) := by
  have HEM := Lib.hid (fun W => rectEmpty_any r0 r1 r2 r3 W)
  have hE0 := (Ext.alloc w (.cells #[.int .i64 r0, .int .i64 r1, .int .i64 r2, .int .i64 r3] 29)).trans (Ext.alloc _ (.cells #[] 29))
  have b3 := (Box.new w 29 #[.int .i64 r0, .int .i64 r1, .int .i64 r2, .int .i64 r3]).alloc (.cells #[] 29)
  have hown0 : rectE.Own ((w.alloc (.cells #[.int .i64 r0, .int .i64 r1, .int .i64 r2, .int .i64 r3] 29)).alloc (.cells #[] 29)) (w.heap.size + 1) (.slice (some ⟨w.heap.size + 1, 0, none⟩) 0 0) [] := by
    have h := (EL.Own.made (E := rectE) (w.alloc (.cells #[.int .i64 r0, .int .i64 r1, .int .i64 r2, .int .i64 r3] 29)))
    simp only [heap_alloc_push, Array.size_push] at h
    exact h
  have c3 := b3.cell
  go_enter Try.func64, Try.ntmps64
  go_wp2_with fail
  generalize hW0 : World.alloc (World.alloc w _) _ = W0 at *
  have hsz0 : W0.heap.size = w.heap.size + 2 := by rw [← hW0]; simp
  clear hW0
  obtain ⟨B, hB⟩ : ∃ B, w.heap.size = B := ⟨_, rfl⟩
  have HB := Lib.hid hB
  rw [hB] at b3 c3 hown0 hsz0 ⊢
  clear hB
  refine (HEM.out _).mono ?_
  rintro e w1 ⟨rfl, hE1⟩
  have hE1s := hE1.size
  rw [hsz0] at hE1s
  replace hE0 := hE0.trans hE1
  replace b3 := b3.ext hE1
  replace hown0 := hown0.ext hE1
  clear hE1 c3
  cases hem : rectEmptyS (r0, r1, r2, r3)
  rotate_left
  · have HT := Lib.hid (show tileL (r0, r1, r2, r3) wd ht = [] from by unfold tileL badT; rw [hem]; rfl)
    clear hem
    go_wp2
    go_ret
    exact ⟨_, rfl, hE0, by rw [HT.out, HB.out]; exact hown0.lower (by omega)⟩
  · by_cases hw1 : wd < 1
    · have HT := Lib.hid (show tileL (r0, r1, r2, r3) wd ht = [] from by unfold tileL badT; rw [hem, decide_eq_true hw1]; rfl)
      have d1 : (wd < 1) = True := eq_true hw1
      clear hem
      go_wp2
      go_ret
      exact ⟨_, rfl, hE0, by rw [HT.out, HB.out]; exact hown0.lower (by omega)⟩
    · by_cases hh1 : ht < 1
      · have HT := Lib.hid (show tileL (r0, r1, r2, r3) wd ht = [] from by unfold tileL badT; rw [hem, decide_eq_true hh1]; simp)
        have d1 : (wd < 1) = False := eq_false hw1
        have d2 : (ht < 1) = True := eq_true hh1
        clear hem
        go_wp2
        go_ret
        exact ⟨_, rfl, hE0, by rw [HT.out, HB.out]; exact hown0.lower (by omega)⟩
      · have br := empty_false hem
        dsimp only at br
        have d1 : (wd < 1) = False := eq_false hw1
        have d2 : (ht < 1) = False := eq_false hh1
        have HT := Lib.hid (show tileL (r0, r1, r2, r3) wd ht = tilesTo (r0, r1, r2, r3) (min wd 8192) (min ht 8192) (timesN (r2 - r0) (min wd 8192)) (timesN (r3 - r1) (min ht 8192) * timesN (r2 - r0) (min wd 8192)) from by unfold tileL badT; rw [hem, decide_eq_false hw1, decide_eq_false hh1]; rfl)
        have HX := Lib.hid (fun k => timesN_lt (n := r2 - r0) (w := min wd 8192) (by omega) (by omega) k)
        have HY := Lib.hid (fun k => timesN_lt (n := r3 - r1) (w := min ht 8192) (by omega) (by omega) k)
        have HXL := Lib.hid (timesN_le (n := r2 - r0) (w := min wd 8192) (by omega) (by omega))
        have HYL := Lib.hid (timesN_le (n := r3 - r1) (w := min ht 8192) (by omega) (by omega))
        obtain ⟨A, hA⟩ : ∃ A, timesN (r2 - r0) (min wd 8192) = A := ⟨_, rfl⟩
        obtain ⟨T, hT⟩ : ∃ T, timesN (r3 - r1) (min ht 8192) = T := ⟨_, rfl⟩
        rw [hA, hT] at HT
        rw [hA] at HX HXL
        rw [hT] at HY HYL
        have hWb : 1 ≤ min wd 8192 ∧ min wd 8192 ≤ 8192 := by omega
        have hHb : 1 ≤ min ht 8192 ∧ min ht 8192 ≤ 8192 := by omega
        have c3 := b3.cell
        clear hem hA hT
        go_wp2_with fail
        generalize min wd 8192 = W at *
        generalize min ht 8192 = H at *
        clear c3
        have HSB := Lib.hid (show B + 2 ≤ w1.heap.size from by have := hE1s; omega)
        have HTA := Lib.hid (show T * A ≤ 67108864 from by
          have e1 := HXL.out
          have e2 := HYL.out
          exact Nat.le_trans (Nat.mul_le_mul (show T ≤ 8192 by omega) (show A ≤ 8192 by omega)) (by omega))
        go_loopw [7, 8, 9] (fun s y _ wr => ∃ (t : Nat) (yv : Int), t ≤ T ∧ y = .int .i64 yv ∧ Hid (yv = r1 + (t : Int) * H) ∧ Ext w wr ∧ Box wr B 29 #[.int .i64 r0, .int .i64 r1, .int .i64 r2, .int .i64 r3] ∧ rectE.Own wr (B + 1) s (tilesTo (r0, r1, r2, r3) W H A (t * A))) (fun _ y _ _ => (r3 - intOf y).toNat)
        case atStart => exact ⟨0, r1, Nat.zero_le _, rfl, Lib.hid (by simp), hE0, b3, by rw [Nat.zero_mul]; exact hown0⟩
        case round =>
          clear hE0 b3 hown0
          obtain ⟨t, yv, hty, rfl, HYV, hE, b3, hown⟩ := hrel
          have c3 := b3.cell
          by_cases hlt : t < T
          · have hyr : yv < r3 := by have := (HY.out t).1 hlt; have := HYV.out; omega
            have hy0 : r1 ≤ yv := by have := HYV.out; have := Int.mul_nonneg (Int.natCast_nonneg t) (show 0 ≤ H by omega); omega
            have dy : (yv < r3) = True := eq_true hyr
            have q2 : IntKind.i64.wrap (yv + H) = yv + H := IntWalk.i64_in _ (by omega)
            have HYN := Lib.hid (show yv + H = r1 + ((t + 1 : Nat) : Int) * H from by rw [HYV.out]; push_cast; rw [Int.add_mul, Int.one_mul]; omega)
            have HTL := Lib.hid (show t * A + A ≤ T * A from by
              have := Nat.mul_le_mul_right A (show t + 1 ≤ T from hlt)
              rwa [Nat.add_mul, Nat.one_mul] at this)
            have HROW := Lib.hid (show (t + 1) * A = t * A + A from by rw [Nat.add_mul, Nat.one_mul])
            go_wp2_with fail
            go_loopw [7, 9] (fun s x wr => ∃ (k : Nat) (xv : Int), k ≤ A ∧ x = .int .i64 xv ∧ Hid (xv = r0 + (k : Int) * W) ∧ Ext w wr ∧ Box wr B 29 #[.int .i64 r0, .int .i64 r1, .int .i64 r2, .int .i64 r3] ∧ rectE.Own wr (B + 1) s (tilesTo (r0, r1, r2, r3) W H A (t * A + k))) (fun _ x _ => (r2 - intOf x).toNat)
            case atStart => exact ⟨0, r0, Nat.zero_le _, rfl, Lib.hid (by simp), hE, b3, hown⟩
            case round =>
              clear hE b3 hown c3
              obtain ⟨k, xv, hkx, rfl, HXV, hE, b3, hown⟩ := hrel
              have c3 := b3.cell
              by_cases hlt2 : k < A
              · have hxr : xv < r2 := by have := (HX.out k).1 hlt2; have := HXV.out; omega
                have hx0 : r0 ≤ xv := by have := HXV.out; have := Int.mul_nonneg (Int.natCast_nonneg k) (show 0 ≤ W by omega); omega
                have dx : (xv < r2) = True := eq_true hxr
                have q1 : IntKind.i64.wrap (xv + W) = xv + W := IntWalk.i64_in _ (by omega)
                have HXN := Lib.hid (show xv + W = r0 + ((k + 1 : Nat) : Int) * W from by rw [HXV.out]; push_cast; rw [Int.add_mul, Int.one_mul]; omega)
                have HSN := Lib.hid (show tilesTo (r0, r1, r2, r3) W H A (t * A + (k + 1)) = tilesTo (r0, r1, r2, r3) W H A (t * A + k) ++ [(xv, yv, min (xv + W) r2, min (yv + H) r3)] from by rw [tilesTo_snoc _ _ _ _ _ _ hlt2, HXV.out, HYV.out])
                have HLL := Lib.hid (show (tilesTo (r0, r1, r2, r3) W H A (t * A + k)).length + ([(xv, yv, min (xv + W) r2, min (yv + H) r3)] : List R4).length ≤ 1000000000 from by
                  rw [tilesTo_len]
                  have := HTL.out
                  have := HTA.out
                  simp only [List.length_singleton]; omega)
                generalize tilesTo (r0, r1, r2, r3) W H A (t * A + k) = cur at *
                generalize hm1 : min (xv + W) r2 = m1 at *
                generalize hm2 : min (yv + H) r3 = m2 at *
                have hEb := hE.trans (Ext.alloc wr (.cells #[.int .i64 xv, .int .i64 yv, .int .i64 m1, .int .i64 m2] 29))
                have hownB := hown.ext (Ext.alloc wr (.cells #[.int .i64 xv, .int .i64 yv, .int .i64 m1, .int .i64 m2] 29))
                have b3B := b3.alloc (.cells #[.int .i64 xv, .int .i64 yv, .int .i64 m1, .int .i64 m2] 29)
                have hrow := EL.rowOne (E := rectE) (x := (xv, yv, m1, m2)) (Box.new wr 29 #[.int .i64 xv, .int .i64 yv, .int .i64 m1, .int .i64 m2]) rfl
                have hsz : B + 1 ≤ (wr.alloc (.cells #[.int .i64 xv, .int .i64 yv, .int .i64 m1, .int .i64 m2] 29)).heap.size := by
                  have := b3B.lt
                  omega
                go_wp2_with (at_builtin; refine EL.wpApp rectE rfl _ _ rfl (B + 1) _ _ cur [(xv, yv, m1, m2)] rfl rfl hownB hrow HLL.out hsz ?_; intro v1 W1 own1 gr1 _)
                have hE5 := growExt hEb hownB (by rw [HB.out]; omega) gr1
                have b3C := boxGrown b3B gr1 (own_ne_low hownB (by omega))
                go_roundw
                case rel => exact ⟨k + 1, xv + W, by omega, by go_num, HXN, hE5, b3C, by rw [HSN.out]; exact own1⟩
                case measure => simp [intOf]; omega
              · have hxr : ¬ xv < r2 := by have := mt (HX.out k).2 hlt2; have := HXV.out; omega
                have dx : (xv < r2) = False := eq_false hxr
                have HKA := Lib.hid (show t * A + k = (t + 1) * A from by rw [HROW.out]; omega)
                rw [HKA.out] at hown
                go_wp2
                go_roundw
                case rel => exact ⟨t + 1, yv + H, by omega, by go_num, HYN, hE, b3, hown⟩
                case measure => simp [intOf]; omega
          · have hyr : ¬ yv < r3 := by have := mt (HY.out t).2 hlt; have := HYV.out; omega
            have dy : (yv < r3) = False := eq_false hyr
            have HTT := Lib.hid (show t * A = T * A from by rw [show t = T by omega])
            rw [HTT.out] at hown
            go_wp2
            go_ret
            exact ⟨_, rfl, hE, by rw [HT.out, HB.out]; exact hown.lower (by omega)⟩
end Go.Proofs.Ytkjpcjmbhpfelaa
