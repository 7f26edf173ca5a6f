/- tile.Count, Bounds, IndexAt. -/
import Derived.Test.YtefdheoalonbaaaTileAll2
set_option linter.unusedVariables false
set_option linter.unusedSimpArgs false
namespace Go.Proofs.Ytefdheoalonbaaa
open Go.RowKit Go.Par

def boundsT (r : R4) (w h i : Int) : R4 := if i < 0 then (0, 0, 0, 0) else (allT r w h).getD i.toNat (0, 0, 0, 0)
def findT (l : List R4) (x y : Int) : Int := match l.findIdx? (fun t => rectHasS t x y) with | some i => (i : Int) | none => -1
def indexT (r : R4) (w h x y : Int) : Int := findT (allT r w h) x y
theorem findT_some {l : List R4} {x y : Int} {k : Nat} {t : R4} (hk : l[k]? = some t) (hp : rectHasS t x y = true) (hno : ∀ j, j < k → ∀ q, l[j]? = some q → rectHasS q x y = false) : findT l x y = k := by
  have hlt := (List.getElem?_eq_some_iff.1 hk).1
  have e : l.findIdx? (fun t => rectHasS t x y) = some k := by
    rw [List.findIdx?_eq_some_iff_getElem]
    refine ⟨hlt, ?_, fun j hj => ?_⟩
    · have := (List.getElem?_eq_some_iff.1 hk).2
      rw [this]
      exact hp
    · rw [hno j hj l[j] (List.getElem?_eq_getElem (by omega))]
      decide
  unfold findT
  rw [e]
theorem findT_none {l : List R4} {x y : Int} (hno : ∀ (j : Nat) (q : R4), l[j]? = some q → rectHasS q x y = false) : findT l x y = -1 := by
  have e : l.findIdx? (fun t => rectHasS t x y) = none := by
    rw [List.findIdx?_eq_none_iff]
    intro q hq
    obtain ⟨j, hj⟩ := List.mem_iff_getElem?.1 hq
    exact hno j q hj
  unfold findT
  rw [e]
section
variable {w : World} {b o : Nat} {l : List R4}
theorem rect_cells (hcell : ∀ i x, l[i]? = some x → ∀ j v, (rectE.enc x)[j]? = some v → w.cell? ⟨b, o + i * rectE.size + j, none⟩ = some v) {k : Nat} {r : R4} (hk : l[k]? = some r) :
    w.cell? ⟨b, o + k * 4, none⟩ = some (.int .i64 r.1) ∧ w.cell? ⟨b, o + k * 4 + 1, none⟩ = some (.int .i64 r.2.1) ∧ w.cell? ⟨b, o + k * 4 + 2, none⟩ = some (.int .i64 r.2.2.1) ∧ w.cell? ⟨b, o + k * 4 + 3, none⟩ = some (.int .i64 r.2.2.2) :=
  ⟨hcell k r hk 0 _ rfl, hcell k r hk 1 _ rfl, hcell k r hk 2 _ rfl, hcell k r hk 3 _ rfl⟩
end
set_option maxHeartbeats 800000 in
theorem pCount_any (x0 y0 x1 y1 wd ht : Int) (w : World) (hw2 : wd ≤ 9223372036854775807) (hh2 : ht ≤ 9223372036854775807) :
    Calls Try.prog 15 #[.agg #[.int .i64 x0, .int .i64 y0, .int .i64 x1, .int .i64 y1], .int .i64 wd, .int .i64 ht] w fun e w' => e = .returned (.int .i64 ((allT (x0, y0, x1, y1) wd ht).length : Nat)) ∧ Ext w w' := by
  have HA := Lib.hid (fun W => tileAll_any x0 y0 x1 y1 wd ht W hw2 hh2)
  have hle := allT_le (x0, y0, x1, y1) wd ht
  generalize allT (x0, y0, x1, y1) wd ht = l at *
  go_enter Try.func15, Try.ntmps15
  go_wp2_with fail
  refine (HA.out _).mono ?_
  rintro e w1 ⟨v, rfl, hE, hown⟩
  obtain ⟨A, c, rfl, _, _⟩ := hown.at rfl (by omega)
  clear hown
  go_wp2
  go_ret
  exact ⟨rfl, (Ext.alloc _ _).trans hE⟩
set_option maxHeartbeats 800000 in
theorem pBounds_any (x0 y0 x1 y1 wd ht i : Int) (w : World) (hw2 : wd ≤ 9223372036854775807) (hh2 : ht ≤ 9223372036854775807) :
    Calls Try.prog 17 #[.agg #[.int .i64 x0, .int .i64 y0, .int .i64 x1, .int .i64 y1], .int .i64 wd, .int .i64 ht, .int .i64 i] w fun e w' => e = .returned (rectV (boundsT (x0, y0, x1, y1) wd ht i)) ∧ Ext w w' := by
  have HA := Lib.hid (fun W => tileAll_any x0 y0 x1 y1 wd ht W hw2 hh2)
  have hle := allT_le (x0, y0, x1, y1) wd ht
  have HB := Lib.hid (show boundsT (x0, y0, x1, y1) wd ht i = if i < 0 then (0, 0, 0, 0) else (allT (x0, y0, x1, y1) wd ht).getD i.toNat (0, 0, 0, 0) from rfl)
  generalize allT (x0, y0, x1, y1) wd ht = l at *
  obtain ⟨n, hn⟩ : ∃ n, n = l.length := ⟨_, rfl⟩
  have HN := Lib.hid hn
  rw [← hn] at hle
  clear hn
  go_enter Try.func17, Try.ntmps17
  go_wp2_with fail
  refine (HA.out _).mono ?_
  rintro e w1 ⟨v, rfl, hE, hown⟩
  obtain ⟨A, c, rfl, _, hat⟩ := hown.at HN.out.symm (by omega)
  have BR := Box.at1.ext hE
  have cR := BR.cell
  have fR := BR.frozen
  have hE' := ((Ext.alloc _ _).trans (Ext.alloc _ _)).trans hE
  have hne : w.heap.size + 1 < w1.heap.size := BR.lt
  clear hown hE HA
  by_cases h0 : i < 0
  · have HR := Lib.hid (show boundsT (x0, y0, x1, y1) wd ht i = (0, 0, 0, 0) from by rw [HB.out, if_pos h0])
    have d1 : (0 ≤ i) = False := eq_false (by omega)
    clear HB h0
    go_wp2
    exact bodyPost_ret (v := rectV (0, 0, 0, 0)) (by simp [results, Try.results17, go_sem, rectV, cR, fR]) rfl ⟨by rw [HR.out], hE'.set4 (Nat.le_succ _) _ _ _ _⟩
  · have d1 : 0 ≤ i := by omega
    obtain ⟨k, rfl⟩ : ∃ k : Nat, i = k := ⟨i.toNat, by omega⟩
    by_cases hk : k < n
    · obtain ⟨⟨a1, a2, a3, a4⟩, hlk⟩ : ∃ q, l[k]? = some q := ⟨_, List.getElem?_eq_getElem (by rw [← HN.out]; exact hk)⟩
      have HR := Lib.hid (show boundsT (x0, y0, x1, y1) wd ht k = (a1, a2, a3, a4) from by rw [HB.out, if_neg h0, Int.toNat_natCast, List.getD_eq_getElem?_getD, hlk]; rfl)
      obtain ⟨b, o, rfl, hcell⟩ := hat (fun e => by rw [e] at hlk; simp at hlk)
      obtain ⟨e0, e1, e2, e3⟩ := rect_cells hcell hlk
      simp only at e0 e1 e2 e3
      clear HB h0 hcell hlk hat
      go_wp2
      exact bodyPost_ret (v := rectV (a1, a2, a3, a4)) (by simp [results, Try.results17, go_sem, rectV, cR, fR]) rfl ⟨by rw [HR.out], hE'.set4 (Nat.le_succ _) _ _ _ _⟩
    · have HR := Lib.hid (show boundsT (x0, y0, x1, y1) wd ht k = (0, 0, 0, 0) from by rw [HB.out, if_neg h0, Int.toNat_natCast, List.getD_eq_getElem?_getD, List.getElem?_eq_none (by rw [← HN.out]; omega)]; rfl)
      have d2 : ((k : Int) < (n : Int)) = False := eq_false (by omega)
      clear HB h0 hat
      go_wp2
      exact bodyPost_ret (v := rectV (0, 0, 0, 0)) (by simp [results, Try.results17, go_sem, rectV, cR, fR]) rfl ⟨by rw [HR.out], hE'.set4 (Nat.le_succ _) _ _ _ _⟩
set_option maxHeartbeats 800000 in
theorem pIndexAt_any (x0 y0 x1 y1 wd ht x y : Int) (w : World) (hw2 : wd ≤ 9223372036854775807) (hh2 : ht ≤ 9223372036854775807) :
    Calls Try.prog 19 #[.agg #[.int .i64 x0, .int .i64 y0, .int .i64 x1, .int .i64 y1], .int .i64 wd, .int .i64 ht, .int .i64 x, .int .i64 y] w fun e w' => e = .returned (.int .i64 (indexT (x0, y0, x1, y1) wd ht x y)) ∧ Ext w w' := by
  have HA := Lib.hid (fun W => tileAll_any x0 y0 x1 y1 wd ht W hw2 hh2)
  have hle := allT_le (x0, y0, x1, y1) wd ht
  have HB := Lib.hid (show indexT (x0, y0, x1, y1) wd ht x y = findT (allT (x0, y0, x1, y1) wd ht) x y from rfl)
  generalize allT (x0, y0, x1, y1) wd ht = l at *
  obtain ⟨n, hn⟩ : ∃ n, n = l.length := ⟨_, rfl⟩
  have HN := Lib.hid hn
  rw [← hn] at hle
  clear hn
  go_enter Try.func19, Try.ntmps19
  go_wp2_with fail
  refine (HA.out _).mono ?_
  rintro e w1 ⟨v, rfl, hE, hown⟩
  obtain ⟨A, c, rfl, _, hat⟩ := hown.at HN.out.symm (by omega)
  have hE' := (Ext.alloc _ _).trans hE
  clear hown hE HA
  go_wp2_with fail
  go_loopw [11, 12, 18] (fun _ _ i wr => ∃ k : Nat, k ≤ n ∧ i = .int .i64 k ∧ Ext w1 wr ∧ Hid (∀ j, j < k → ∀ q, l[j]? = some q → rectHasS q x y = false)) (fun _ _ i _ => n - (intOf i).toNat)
  case atStart => exact ⟨0, Nat.zero_le _, rfl, Ext.refl _, Lib.hid (fun j hj => absurd hj (Nat.not_lt_zero j))⟩
  case round =>
    obtain ⟨k, hk, rfl, hE2, HNO⟩ := hrel
    by_cases hlt : k < n
    · obtain ⟨⟨a1, a2, a3, a4⟩, hlk⟩ : ∃ q, l[k]? = some q := ⟨_, List.getElem?_eq_getElem (by rw [← HN.out]; exact hlt)⟩
      have HLK := Lib.hid hlk
      obtain ⟨b, o, rfl, hcell⟩ := hat (fun e => by rw [e] at hlk; simp at hlk)
      obtain ⟨e0, e1, e2, e3⟩ := rect_cells hcell hlk
      simp only at e0 e1 e2 e3
      replace e0 := hE2.cell e0
      replace e1 := hE2.cell e1
      replace e2 := hE2.cell e2
      replace e3 := hE2.cell e3
      clear hcell hlk
      go_wp2_with fail
      refine (pHas_any _ _ _ _ _ _ _).mono ?_
      rintro e w2 ⟨rfl, hE3⟩
      have hE4 := hE2.trans ((Ext.alloc _ _).trans hE3)
      clear hE3 e0 e1 e2 e3
      cases hh : rectHasS (a1, a2, a3, a4) x y
      · have HH := Lib.hid hh
        clear hh
        go_wp2
        go_roundw
        case rel => exact ⟨k + 1, by omega, by go_num, hE4, Lib.hid (fun j hj q hq => by
          rcases Nat.lt_succ_iff_lt_or_eq.1 hj with h | rfl
          · exact HNO.out j h q hq
          · rw [HLK.out] at hq
            injection hq with hq
            subst hq
            exact HH.out)⟩
        case measure => simp [intOf]; omega
      · have HR := Lib.hid (show indexT (x0, y0, x1, y1) wd ht x y = k from by rw [HB.out]; exact findT_some HLK.out hh HNO.out)
        clear hh
        go_wp2
        go_ret
        exact ⟨ret_eq (by rw [HR.out]; rfl), hE'.trans hE4⟩
    · have HR := Lib.hid (show indexT (x0, y0, x1, y1) wd ht x y = -1 from by
        rw [HB.out]
        refine findT_none fun j q hq => HNO.out j ?_ q hq
        have := (List.getElem?_eq_some_iff.1 hq).1
        rw [← HN.out] at this
        omega)
      go_wp2
      go_ret
      exact ⟨ret_eq (by rw [HR.out]; rfl), hE'.trans hE2⟩
end Go.Proofs.Ytefdheoalonbaaa
