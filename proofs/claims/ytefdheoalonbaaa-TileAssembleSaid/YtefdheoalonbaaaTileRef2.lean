/- The reference's Count, Bounds, IndexAt. -/
import Derived.Test.YtefdheoalonbaaaTileRef
set_option linter.unusedVariables false
set_option linter.unusedSimpArgs false
namespace Go.Proofs.Ytefdheoalonbaaa
open Go.RowKit Go.Par

theorem allT_invalid {r : R4} {w h : Int} (hv : validT r w h = false) : allT r w h = [] := by
  unfold allT; rw [hv]; rfl
set_option maxHeartbeats 800000 in
theorem rCount_any (x0 y0 x1 y1 wd ht : Int) (w : World) :
    Calls Try.prog 16 #[.agg #[.int .i64 x0, .int .i64 y0, .int .i64 x1, .int .i64 y1], .int .i64 wd, .int .i64 ht] w fun e w' => e = .returned (.int .i64 ((allT (x0, y0, x1, y1) wd ht).length : Nat)) ∧ Ext w w' := by
  have HV := Lib.hid (fun W => rTileValid_any x0 y0 x1 y1 wd ht W)
  have hle := allT_le (x0, y0, x1, y1) wd ht
  have HA := Lib.hid (fun W => rTiles_any x0 y0 x1 y1 wd ht W)
  have HI := Lib.hid (fun h => allT_invalid (r := (x0, y0, x1, y1)) (w := wd) (h := ht) h)
  generalize allT (x0, y0, x1, y1) wd ht = l at *
  go_enter Try.func16, Try.ntmps16
  go_wp2_with fail
  refine (HV.out _).mono ?_
  rintro e w1 ⟨rfl, hE⟩
  have bR := (Box.new w 23 #[.int .i64 x0, .int .i64 y0, .int .i64 x1, .int .i64 y1]).ext hE
  have hE0 := (Ext.alloc w (.cells #[.int .i64 x0, .int .i64 y0, .int .i64 x1, .int .i64 y1] 23)).trans hE
  have cR := bR.cell
  clear hE
  cases hv : validT (x0, y0, x1, y1) wd ht
  · have HL := Lib.hid (HI.out hv)
    clear hv HA HI
    go_wp2
    go_ret
    exact ⟨ret_eq (by rw [HL.out]; rfl), hE0⟩
  · replace HA := Lib.hid (fun W => HA.out W hv)
    clear hv HI
    go_wp2_with fail
    refine (HA.out _).mono ?_
    rintro e w2 ⟨v, rfl, hE, hown⟩
    obtain ⟨A, c, rfl, _, _⟩ := hown.at rfl (by omega)
    clear hown
    go_wp2
    go_ret
    exact ⟨rfl, hE0.trans hE⟩
set_option maxHeartbeats 800000 in
theorem rBounds_any (x0 y0 x1 y1 wd ht i : Int) (w : World) :
    Calls Try.prog 18 #[.agg #[.int .i64 x0, .int .i64 y0, .int .i64 x1, .int .i64 y1], .int .i64 wd, .int .i64 ht, .int .i64 i] w fun e w' => e = .returned (rectV (boundsT (x0, y0, x1, y1) wd ht i)) ∧ Ext w w' := by
  have HV := Lib.hid (fun W => rTileValid_any x0 y0 x1 y1 wd ht W)
  have hle := allT_le (x0, y0, x1, y1) wd ht
  have HA := Lib.hid (fun W => rTiles_any x0 y0 x1 y1 wd ht W)
  have HI := Lib.hid (fun h => allT_invalid (r := (x0, y0, x1, y1)) (w := wd) (h := ht) h)
  have HB := Lib.hid (show boundsT (x0, y0, x1, y1) wd ht i = if i < 0 then (0, 0, 0, 0) else (allT (x0, y0, x1, y1) wd ht).getD i.toNat (0, 0, 0, 0) from rfl)
  generalize allT (x0, y0, x1, y1) wd ht = l at *
  obtain ⟨n, hn⟩ : ∃ n, n = l.length := ⟨_, rfl⟩
  have HN := Lib.hid hn
  rw [← hn] at hle
  clear hn
  go_enter Try.func18, Try.ntmps18
  go_wp2_with fail
  refine (HV.out _).mono ?_
  rintro e w1 ⟨rfl, hE⟩
  have bR := ((Box.new w 23 #[.int .i64 x0, .int .i64 y0, .int .i64 x1, .int .i64 y1]).alloc (.cells #[.int .i64 0, .int .i64 0, .int .i64 0, .int .i64 0] 23)).ext hE
  have BR := Box.at1.ext hE
  have hE0 := ((Ext.alloc w (.cells #[.int .i64 x0, .int .i64 y0, .int .i64 x1, .int .i64 y1] 23)).trans (Ext.alloc _ _)).trans hE
  have cR := bR.cell
  clear hE
  cases hv : validT (x0, y0, x1, y1) wd ht
  · have HR := Lib.hid (show boundsT (x0, y0, x1, y1) wd ht i = (0, 0, 0, 0) from by rw [HB.out, HI.out hv]; split <;> rfl)
    have cB := BR.cell
    have fB := BR.frozen
    clear hv HA HI HB
    go_wp2
    exact bodyPost_ret (v := rectV (0, 0, 0, 0)) (by simp [results, Try.results18, go_sem, rectV, cB, fB]) rfl ⟨by rw [HR.out], hE0.set4 (Nat.le_succ _) _ _ _ _⟩
  · replace HA := Lib.hid (fun W => HA.out W hv)
    clear hv HI
    go_wp2_with fail
    refine (HA.out _).mono ?_
    rintro e w2 ⟨v, rfl, hE, hown⟩
    obtain ⟨A, c, rfl, _, hat⟩ := hown.at HN.out.symm (by omega)
    replace BR := BR.ext hE
    replace hE0 := hE0.trans hE
    have cB := BR.cell
    have fB := BR.frozen
    clear hown hE HA cR bR
    by_cases h0 : i < 0
    · have HR := Lib.hid (show boundsT (x0, y0, x1, y1) wd ht i = (0, 0, 0, 0) from by rw [HB.out, if_pos h0])
      have d1 : (i < 0) = True := eq_true h0
      clear HB h0
      go_wp2
      exact bodyPost_ret (v := rectV (0, 0, 0, 0)) (by simp [results, Try.results18, go_sem, rectV, cB, fB]) rfl ⟨by rw [HR.out], hE0.set4 (Nat.le_succ _) _ _ _ _⟩
    · have d1 : (i < 0) = False := eq_false h0
      obtain ⟨k, rfl⟩ : ∃ k : Nat, i = k := ⟨i.toNat, by omega⟩
      by_cases hk : k < n
      · obtain ⟨⟨a1, a2, a3, a4⟩, hlk⟩ : ∃ q, l[k]? = some q := ⟨_, List.getElem?_eq_getElem (by rw [← HN.out]; exact hk)⟩
        have HR := Lib.hid (show boundsT (x0, y0, x1, y1) wd ht k = (a1, a2, a3, a4) from by rw [HB.out, if_neg h0, Int.toNat_natCast, List.getD_eq_getElem?_getD, hlk]; rfl)
        obtain ⟨b, o, rfl, hcell⟩ := hat (fun e => by rw [e] at hlk; simp at hlk)
        obtain ⟨e0, e1, e2, e3⟩ := rect_cells hcell hlk
        simp only at e0 e1 e2 e3
        have d2 : ((n : Int) ≤ (k : Int)) = False := eq_false (by omega)
        clear HB h0 hcell hlk hat
        go_wp2
        exact bodyPost_ret (v := rectV (a1, a2, a3, a4)) (by simp [results, Try.results18, go_sem, rectV, cB, fB]) rfl ⟨by rw [HR.out], hE0.set4 (Nat.le_succ _) _ _ _ _⟩
      · have HR := Lib.hid (show boundsT (x0, y0, x1, y1) wd ht k = (0, 0, 0, 0) from by rw [HB.out, if_neg h0, Int.toNat_natCast, List.getD_eq_getElem?_getD, List.getElem?_eq_none (by rw [← HN.out]; omega)]; rfl)
        have d2 : ((n : Int) ≤ (k : Int)) = True := eq_true (by omega)
        clear HB h0 hat
        go_wp2
        exact bodyPost_ret (v := rectV (0, 0, 0, 0)) (by simp [results, Try.results18, go_sem, rectV, cB, fB]) rfl ⟨by rw [HR.out], hE0.set4 (Nat.le_succ _) _ _ _ _⟩
set_option maxHeartbeats 800000 in
theorem rIndexAt_any (x0 y0 x1 y1 wd ht x y : Int) (w : World) :
    Calls Try.prog 20 #[.agg #[.int .i64 x0, .int .i64 y0, .int .i64 x1, .int .i64 y1], .int .i64 wd, .int .i64 ht, .int .i64 x, .int .i64 y] w fun e w' => e = .returned (.int .i64 (indexT (x0, y0, x1, y1) wd ht x y)) ∧ Ext w w' := by
  have HC := Lib.hid (fun W => rCount_any x0 y0 x1 y1 wd ht W)
  have HO := Lib.hid (fun i W => rBounds_any x0 y0 x1 y1 wd ht i W)
  have hle := allT_le (x0, y0, x1, y1) wd ht
  have HBT := Lib.hid (show ∀ k : Nat, boundsT (x0, y0, x1, y1) wd ht k = (allT (x0, y0, x1, y1) wd ht).getD k (0, 0, 0, 0) from fun k => by unfold boundsT; rw [if_neg (by omega), Int.toNat_natCast])
  have HB := Lib.hid (show indexT (x0, y0, x1, y1) wd ht x y = findT (allT (x0, y0, x1, y1) wd ht) x y from rfl)
  generalize allT (x0, y0, x1, y1) wd ht = l at *
  obtain ⟨n, hn⟩ : ∃ n, n = l.length := ⟨_, rfl⟩
  have HN := Lib.hid hn
  rw [← hn] at hle HC
  clear hn
  go_enter Try.func20, Try.ntmps20
  go_wp2_with fail
  go_loopw [11] (fun i wr => ∃ k : Nat, k ≤ n ∧ i = .int .i64 k ∧ Ext (w.alloc (.cells #[.int .i64 x0, .int .i64 y0, .int .i64 x1, .int .i64 y1] 23)) wr ∧ Hid (∀ j, j < k → ∀ q, l[j]? = some q → rectHasS q x y = false)) (fun i _ => n - (intOf i).toNat)
  case atStart => exact ⟨0, Nat.zero_le _, rfl, Ext.refl _, Lib.hid (fun j hj => absurd hj (Nat.not_lt_zero j))⟩
  case round =>
    obtain ⟨k, hk, rfl, hE2, HNO⟩ := hrel
    have bR := (Box.new w 23 #[.int .i64 x0, .int .i64 y0, .int .i64 x1, .int .i64 y1]).ext hE2
    have cR := bR.cell
    go_wp2_with fail
    refine (HC.out _).mono ?_
    rintro e w2 ⟨rfl, hE3⟩
    replace hE3 := hE2.trans hE3
    clear bR cR hE2
    have bR := (Box.new w 23 #[.int .i64 x0, .int .i64 y0, .int .i64 x1, .int .i64 y1]).ext hE3
    have cR := bR.cell
    by_cases hlt : k < n
    · obtain ⟨⟨a1, a2, a3, a4⟩, hlk⟩ : ∃ q, l[k]? = some q := ⟨_, List.getElem?_eq_getElem (by rw [← HN.out]; exact hlt)⟩
      have HLK := Lib.hid hlk
      have HOK := Lib.hid (fun W => HO.out k W)
      have e : boundsT (x0, y0, x1, y1) wd ht k = (a1, a2, a3, a4) := by rw [HBT.out, List.getD_eq_getElem?_getD, hlk]; rfl
      rw [e] at HOK
      clear e hlk
      go_wp2_with fail
      refine (HOK.out _).mono ?_
      rintro e w3 ⟨rfl, hE4⟩
      replace hE4 := hE3.trans hE4
      clear hE3 bR cR
      dsimp only [rectV]
      go_wp2_with fail
      refine (rectHas_any _ _ _ _ _ _ _).mono ?_
      rintro e w4 ⟨rfl, hE5⟩
      replace hE5 := hE4.trans hE5
      clear hE4
      cases hh : rectHasS (a1, a2, a3, a4) x y
      · have HH := Lib.hid hh
        clear hh
        go_wp2
        go_roundw
        case rel => exact ⟨k + 1, by omega, by go_num, hE5, Lib.hid (fun j hj q hq => by
          rcases Nat.lt_succ_iff_lt_or_eq.1 hj with h | rfl
          · exact HNO.out j h q hq
          · rw [HLK.out] at hq
            injection hq with hq
            subst hq
            exact HH.out)⟩
        case measure => simp [intOf]; omega
      · have HR := Lib.hid (show indexT (x0, y0, x1, y1) wd ht x y = k from by rw [HB.out]; exact findT_some HLK.out hh HNO.out)
        clear hh
        go_wp2
        go_ret
        exact ⟨ret_eq (by rw [HR.out]; rfl), (Ext.alloc _ _).trans hE5⟩
    · have HR := Lib.hid (show indexT (x0, y0, x1, y1) wd ht x y = -1 from by
        rw [HB.out]
        refine findT_none fun j q hq => HNO.out j ?_ q hq
        have := (List.getElem?_eq_some_iff.1 hq).1
        rw [← HN.out] at this
        omega)
      go_wp2
      go_ret
      exact ⟨ret_eq (by rw [HR.out]; rfl), (Ext.alloc _ _).trans hE3⟩
end Go.Proofs.Ytefdheoalonbaaa
