/- Laws of bitmaps: pixels by rows, crops. No program stands here. -/
import Derived.Test.YtefdheoalonbaaaBm
set_option linter.unusedVariables false
set_option linter.unusedSimpArgs false
namespace Go.Proofs.Ytefdheoalonbaaa
open Go.RowKit Go.Par

/-! ## pixels of a rectangle, row by row -/
abbrev XY := Int × Int
def rowXY (x0 : Int) (n : Nat) (y : Int) : List XY := (startL x0 1 n).map fun x => (x, y)
def gridXY (x0 y0 : Int) (n m : Nat) : List XY := (startL y0 1 m).flatMap (rowXY x0 n)
def coordsR (r : R4) : List XY := gridXY r.1 r.2.1 (r.2.2.1 - r.1).toNat (r.2.2.2 - r.2.1).toNat
theorem rowXY_length (x0 : Int) (n : Nat) (y : Int) : (rowXY x0 n y).length = n := by simp [rowXY, startL_length]
theorem rowXY_succ (x0 : Int) (n : Nat) (y : Int) : rowXY x0 (n + 1) y = rowXY x0 n y ++ [(x0 + n, y)] := by
  unfold rowXY; rw [startL_succ, List.map_append, Int.mul_one]; rfl
theorem gridXY_succ (x0 y0 : Int) (n m : Nat) : gridXY x0 y0 n (m + 1) = gridXY x0 y0 n m ++ rowXY x0 n (y0 + m) := by
  unfold gridXY; rw [startL_succ, List.flatMap_append, Int.mul_one]; simp
theorem gridXY_length (x0 y0 : Int) (n m : Nat) : (gridXY x0 y0 n m).length = m * n := by
  induction m with
  | zero => simp [gridXY, startL]
  | succ m ih => rw [gridXY_succ, List.length_append, ih, rowXY_length, Nat.add_mul]; omega
theorem rowXY_get {x0 y : Int} {n i : Nat} (h : i < n) : (rowXY x0 n y)[i]? = some (x0 + i, y) := by
  unfold rowXY startL
  simp [h]
theorem gridXY_get {x0 y0 : Int} {n m i j : Nat} (hi : i < n) (hj : j < m) : (gridXY x0 y0 n m)[j * n + i]? = some (x0 + i, y0 + j) := by
  induction m with
  | zero => omega
  | succ m ih =>
    rw [gridXY_succ]
    by_cases h : j < m
    · have hl : j * n + i < m * n := by
        have : (j + 1) * n ≤ m * n := Nat.mul_le_mul_right n (by omega)
        rw [Nat.add_mul] at this; omega
      rw [List.getElem?_append_left (by rw [gridXY_length]; exact hl)]
      exact ih h
    · have : j = m := by omega
      subst this
      rw [List.getElem?_append_right (by rw [gridXY_length]; omega), gridXY_length, show j * n + i - j * n = i by omega]
      exact rowXY_get hi
theorem mem_rowXY {x0 y : Int} {n : Nat} {p : XY} (h : p ∈ rowXY x0 n y) : x0 ≤ p.1 ∧ p.1 < x0 + n ∧ p.2 = y := by
  obtain ⟨i, hi⟩ := List.mem_iff_getElem?.1 h
  have hl := (List.getElem?_eq_some_iff.1 hi).1
  rw [rowXY_length] at hl
  rw [rowXY_get hl] at hi
  injection hi with hi
  subst hi
  exact ⟨by show x0 ≤ x0 + (i : Int); omega, by show x0 + (i : Int) < x0 + n; omega, rfl⟩
theorem mem_gridXY {x0 y0 : Int} {n m : Nat} {p : XY} : p ∈ gridXY x0 y0 n m ↔ x0 ≤ p.1 ∧ p.1 < x0 + n ∧ y0 ≤ p.2 ∧ p.2 < y0 + m := by
  constructor
  · intro h
    unfold gridXY at h
    obtain ⟨y, hy, hp⟩ := List.mem_flatMap.1 h
    obtain ⟨h1, h2, h3⟩ := mem_rowXY hp
    unfold startL at hy
    simp at hy
    obtain ⟨a, ha, rfl⟩ := hy
    omega
  · rintro ⟨h1, h2, h3, h4⟩
    refine List.mem_iff_getElem?.2 ⟨(p.2 - y0).toNat * n + (p.1 - x0).toNat, ?_⟩
    rw [gridXY_get (by omega) (by omega)]
    congr 1
    ext <;> simp <;> omega
theorem canon_has {r : R4} {x y : Int} : rectHasS r x y = true ↔ rectEmptyS r = false ∧ r.1 ≤ x ∧ x < r.2.2.1 ∧ r.2.1 ≤ y ∧ y < r.2.2.2 := by
  rw [← has_eq]
  simp [hasR, and_assoc]
theorem mem_coords {r : R4} (hc : rectCanonS r = r) {p : XY} : p ∈ coordsR r ↔ rectHasS r p.1 p.2 = true := by
  unfold coordsR
  rw [mem_gridXY]
  cases he : rectEmptyS r
  · obtain ⟨b1, b2, b3, b4, b5, b6⟩ := empty_false he
    rw [canon_has, he]
    simp only [true_and]
    omega
  · have : r = (0, 0, 0, 0) := by rw [← hc]; unfold rectCanonS; rw [he]; rfl
    subst this
    rw [canon_has, he]
    simp
theorem coords_length {r : R4} (hc : rectCanonS r = r) : ((coordsR r).length : Int) = areaR r := by
  unfold coordsR areaR
  rw [gridXY_length, hc]
  obtain ⟨h1, h2, h3, h4, h5, h6⟩ := canon_in r
  rw [hc] at h5 h6
  rw [Int.natCast_mul, Int.toNat_of_nonneg (by omega), Int.toNat_of_nonneg (by omega), Int.mul_comm]
/-- the pixel of a bitmap -/
def pixAt (b : BM) (x y : Int) : P4 := if rectHasS b.1 x y then b.2.getD (pixS b.1 x y).toNat (0, 0, 0, 0) else (0, 0, 0, 0)
theorem pix_nat {r : R4} {i j : Nat} (he : rectEmptyS r = false) (hi : i < (r.2.2.1 - r.1).toNat) (hj : j < (r.2.2.2 - r.2.1).toNat) :
    rectHasS r (r.1 + i) (r.2.1 + j) = true ∧ pixS r (r.1 + i) (r.2.1 + j) = ((j * (r.2.2.1 - r.1).toNat + i : Nat) : Int) := by
  obtain ⟨b1, b2, b3, b4, b5, b6⟩ := empty_false he
  have h : rectHasS r (r.1 + i) (r.2.1 + j) = true := canon_has.2 ⟨he, by omega, by omega, by omega, by omega⟩
  refine ⟨h, ?_⟩
  unfold pixS
  rw [h, if_pos rfl, show r.2.1 + (j : Int) - r.2.1 = j by omega, Int.natCast_add, Int.natCast_mul, Int.toNat_of_nonneg (by omega)]
  omega
theorem pix_get {r : R4} {x y : Int} (h : rectHasS r x y = true) : (coordsR r)[(pixS r x y).toNat]? = some (x, y) := by
  obtain ⟨h1, h2, h3, h4, h5⟩ := canon_has.1 h
  obtain ⟨b1, b2, b3, b4, b5, b6⟩ := empty_false h1
  have e := (pix_nat (i := (x - r.1).toNat) (j := (y - r.2.1).toNat) h1 (by omega) (by omega)).2
  rw [show r.1 + ((x - r.1).toNat : Int) = x by omega, show r.2.1 + ((y - r.2.1).toNat : Int) = y by omega] at e
  rw [e, Int.toNat_natCast]
  unfold coordsR
  rw [gridXY_get (by omega) (by omega), show r.1 + ((x - r.1).toNat : Int) = x by omega, show r.2.1 + ((y - r.2.1).toNat : Int) = y by omega]
/-- the pixel of index k -/
theorem coords_pix {r : R4} (hc : rectCanonS r = r) {k : Nat} {p : XY} (h : (coordsR r)[k]? = some p) : rectHasS r p.1 p.2 = true ∧ pixS r p.1 p.2 = k := by
  have hm : rectHasS r p.1 p.2 = true := (mem_coords hc).1 (List.mem_iff_getElem?.2 ⟨k, h⟩)
  obtain ⟨he, _⟩ := canon_has.1 hm
  obtain ⟨b1, b2, b3, b4, b5, b6⟩ := empty_false he
  refine ⟨hm, ?_⟩
  have hl := (List.getElem?_eq_some_iff.1 h).1
  unfold coordsR at h hl
  rw [gridXY_length] at hl
  have hn : 0 < (r.2.2.1 - r.1).toNat := by omega
  have e1 := Nat.div_add_mod k (r.2.2.1 - r.1).toNat
  have e2 := Nat.mod_lt k hn
  have e3 : k / (r.2.2.1 - r.1).toNat < (r.2.2.2 - r.2.1).toNat := Nat.div_lt_of_lt_mul (by rw [Nat.mul_comm]; exact hl)
  have e4 := gridXY_get (x0 := r.1) (y0 := r.2.1) e2 e3
  rw [Nat.mul_comm, e1, h] at e4
  injection e4 with e4
  subst e4
  rw [(pix_nat he e2 e3).2, Nat.mul_comm, e1]
theorem bm_eq {b : BM} (h : bmOk b = true) : b.2 = (coordsR b.1).map fun p => pixAt b p.1 p.2 := by
  obtain ⟨hc, h2, h3, h4⟩ := bmOk_facts h
  have hl := coords_length hc
  refine List.ext_getElem? fun k => ?_
  rw [List.getElem?_map]
  by_cases hk : k < b.2.length
  · obtain ⟨p, hp⟩ : ∃ p, (coordsR b.1)[k]? = some p := ⟨_, List.getElem?_eq_getElem (by omega)⟩
    obtain ⟨q1, q2⟩ := coords_pix hc hp
    rw [hp, Option.map_some]
    show _ = some (if rectHasS b.1 p.1 p.2 then b.2.getD (pixS b.1 p.1 p.2).toNat (0, 0, 0, 0) else (0, 0, 0, 0))
    rw [q1, if_pos rfl, q2, Int.toNat_natCast, List.getD_eq_getElem?_getD, List.getElem?_eq_getElem hk]
    rfl
  · rw [List.getElem?_eq_none (by omega), List.getElem?_eq_none (by omega)]; rfl
theorem pixAt_get {b : BM} (h : bmOk b = true) {x y : Int} (hh : rectHasS b.1 x y = true) : b.2[(pixS b.1 x y).toNat]? = some (pixAt b x y) := by
  obtain ⟨hc, h2, h3, h4⟩ := bmOk_facts h
  have := coords_length hc
  have hb := (List.getElem?_eq_some_iff.1 (pix_get hh)).1
  unfold pixAt
  rw [hh, if_pos rfl, List.getD_eq_getElem?_getD, List.getElem?_eq_getElem (by omega)]
  rfl
/-! ## the common part and the crop -/
theorem interS_canon (r s : R4) : rectCanonS (interS r s) = interS r s := by
  unfold interS
  generalize (max (rectCanonS r).1 (rectCanonS s).1, max (rectCanonS r).2.1 (rectCanonS s).2.1, min (rectCanonS r).2.2.1 (rectCanonS s).2.2.1, min (rectCanonS r).2.2.2 (rectCanonS s).2.2.2) = q
  cases h : rectEmptyS q
  · rw [canon_self h, canon_self h]
  · unfold rectCanonS
    rw [h]
    rfl
theorem has_canon (r : R4) (x y : Int) : rectHasS (rectCanonS r) x y = rectHasS r x y := by
  cases h : rectEmptyS r
  · rw [canon_self h]
  · rw [show rectCanonS r = (0, 0, 0, 0) from by unfold rectCanonS; rw [h]; rfl]
    unfold rectHasS
    rw [show rectCanonS r = (0, 0, 0, 0) from by unfold rectCanonS; rw [h]; rfl]
    rfl
theorem has_inter (r s : R4) (x y : Int) : rectHasS (interS r s) x y = (rectHasS r x y && rectHasS s x y) := by
  unfold interS
  rw [has_canon]
  have hr := canon_in r
  have hs := canon_in s
  obtain ⟨h1, h2, h3, h4, h5, h6⟩ := hr
  obtain ⟨k1, k2, k3, k4, k5, k6⟩ := hs
  have := inR_bd h1; have := inR_bd h2; have := inR_bd h3; have := inR_bd h4
  have := inR_bd k1; have := inR_bd k2; have := inR_bd k3; have := inR_bd k4
  rw [Bool.eq_iff_iff, canon_has, Bool.and_eq_true]
  unfold rectHasS
  generalize rectCanonS r = a at *
  generalize rectCanonS s = b at *
  simp only [rectEmptyS, rectValidS, inR, Bool.or_eq_false_iff, Bool.not_eq_false', Bool.and_eq_true, decide_eq_true_eq, decide_eq_false_iff_not]
  omega
def cropS (s : BM) (r : R4) : BM := (interS s.1 r, (coordsR (interS s.1 r)).map fun p => pixAt s p.1 p.2)
theorem inter_sub {r s : R4} (h : rectEmptyS (interS r s) = false) (hr : rectCanonS r = r) : rectEmptyS r = false ∧ r.1 ≤ (interS r s).1 ∧ (interS r s).2.2.1 ≤ r.2.2.1 ∧ r.2.1 ≤ (interS r s).2.1 ∧ (interS r s).2.2.2 ≤ r.2.2.2 := by
  obtain ⟨b1, b2, b3, b4, b5, b6⟩ := empty_false h
  have a1 : rectHasS (interS r s) (interS r s).1 (interS r s).2.1 = true := canon_has.2 ⟨h, by omega, by omega, by omega, by omega⟩
  have a2 : rectHasS (interS r s) ((interS r s).2.2.1 - 1) ((interS r s).2.2.2 - 1) = true := canon_has.2 ⟨h, by omega, by omega, by omega, by omega⟩
  rw [has_inter, Bool.and_eq_true] at a1 a2
  have c1 := canon_has.1 a1.1
  have c2 := canon_has.1 a2.1
  exact ⟨c1.1, by omega, by omega, by omega, by omega⟩
/-- a row of the crop as it lies in the bitmap -/
theorem row_slice {s : BM} (hs : bmOk s = true) {r : R4} (h : rectEmptyS (interS s.1 r) = false) {y : Int} (hy : (interS s.1 r).2.1 ≤ y) (hy2 : y < (interS s.1 r).2.2.2) :
    ∃ i : Nat, pixS s.1 (interS s.1 r).1 y = i ∧ i + ((interS s.1 r).2.2.1 - (interS s.1 r).1).toNat ≤ s.2.length ∧
      ((s.2.drop i).take ((interS s.1 r).2.2.1 - (interS s.1 r).1).toNat) = (rowXY (interS s.1 r).1 ((interS s.1 r).2.2.1 - (interS s.1 r).1).toNat y).map fun p => pixAt s p.1 p.2 := by
  obtain ⟨hc, h2, h3, h4⟩ := bmOk_facts hs
  have hl := coords_length hc
  have hb := bm_eq hs
  obtain ⟨he, e1, e2, e3, e4⟩ := inter_sub h hc
  obtain ⟨b1, b2, b3, b4, b5, b6⟩ := empty_false h
  obtain ⟨c1, c2, c3, c4, c5, c6⟩ := empty_false he
  generalize interS s.1 r = q at *
  have hN : (coordsR s.1).length = (s.1.2.2.2 - s.1.2.1).toNat * (s.1.2.2.1 - s.1.1).toNat := by unfold coordsR; rw [gridXY_length]
  have key : ∀ k : Nat, k < (q.2.2.1 - q.1).toNat → (coordsR s.1)[(y - s.1.2.1).toNat * (s.1.2.2.1 - s.1.1).toNat + (q.1 - s.1.1).toNat + k]? = some (q.1 + k, y) := by
    intro k hk
    unfold coordsR
    rw [Nat.add_assoc, gridXY_get (by omega) (by omega)]
    congr 1
    ext
    · simp; omega
    · simp; omega
  have hp := pix_nat (r := s.1) (i := (q.1 - s.1.1).toNat) (j := (y - s.1.2.1).toNat) he (by omega) (by omega)
  rw [show s.1.1 + ((q.1 - s.1.1).toNat : Int) = q.1 by omega, show s.1.2.1 + ((y - s.1.2.1).toNat : Int) = y by omega] at hp
  generalize (y - s.1.2.1).toNat * (s.1.2.2.1 - s.1.1).toNat + (q.1 - s.1.1).toNat = i at *
  have hlast := (List.getElem?_eq_some_iff.1 (key ((q.2.2.1 - q.1).toNat - 1) (by omega))).1
  refine ⟨i, hp.2, by omega, ?_⟩
  refine List.ext_getElem? fun k => ?_
  rw [List.getElem?_map, List.getElem?_take]
  by_cases hk : k < (q.2.2.1 - q.1).toNat
  · rw [if_pos hk, List.getElem?_drop, rowXY_get hk, hb, List.getElem?_map, key k hk]
  · rw [if_neg hk, List.getElem?_eq_none (by rw [rowXY_length]; omega)]; rfl
end Go.Proofs.Ytefdheoalonbaaa
