/- Tiles part the page: every pixel in one tile, the areas add up. No program stands here. -/
import Derived.Test.YtefdheoalonbaaaBmLaw
import Derived.Test.YtefdheoalonbaaaTileRef2
set_option linter.unusedVariables false
set_option linter.unusedSimpArgs false
namespace Go.Proofs.Ytefdheoalonbaaa
open Go.RowKit Go.Par

/-! ## tiles part the page -/
theorem one_dim {x0 n w p : Int} (hn : 0 < n) (hn2 : n ≤ 100000) (hw : 1 ≤ w) (h1 : x0 ≤ p) (h2 : p < x0 + n) :
    ∃ i : Nat, i < (timesS n w).toNat ∧ x0 + (i : Int) * w ≤ p ∧ p < x0 + (i : Int) * w + min w (x0 + n - (x0 + (i : Int) * w)) := by
  have e := Int.mul_ediv_add_emod (p - x0) w
  have m1 := Int.emod_nonneg (p - x0) (show w ≠ 0 by omega)
  have m2 := Int.emod_lt_of_pos (p - x0) (show 0 < w by omega)
  have q0 : 0 ≤ (p - x0) / w := Int.ediv_nonneg (by omega) (by omega)
  obtain ⟨t1, t2, t3, t4⟩ := times_facts hn hn2 hw
  obtain ⟨i, hi⟩ : ∃ i : Nat, (p - x0) / w = i := ⟨((p - x0) / w).toNat, by omega⟩
  rw [hi, Int.mul_comm] at e
  refine ⟨i, ?_, by omega, by omega⟩
  have : ¬ timesS n w ≤ i := fun hle => by
    have := Int.mul_le_mul_of_nonneg_right hle (show 0 ≤ w by omega)
    omega
  omega
theorem one_uniq {x0 w p : Int} {i j : Nat} (hw : 1 ≤ w) (a1 : x0 + (i : Int) * w ≤ p) (a2 : p < x0 + (i : Int) * w + w) (b1 : x0 + (j : Int) * w ≤ p) (b2 : p < x0 + (j : Int) * w + w) : i = j := by
  rcases Nat.lt_trichotomy i j with h | h | h
  · have := Int.mul_le_mul_of_nonneg_right (show (i : Int) + 1 ≤ j by omega) (show 0 ≤ w by omega)
    rw [Int.add_mul, Int.one_mul] at this
    omega
  · exact h
  · have := Int.mul_le_mul_of_nonneg_right (show (j : Int) + 1 ≤ i by omega) (show 0 ≤ w by omega)
    rw [Int.add_mul, Int.one_mul] at this
    omega
theorem startL_get {lo w : Int} {m i : Nat} (h : i < m) : (startL lo w m)[i]? = some (lo + (i : Int) * w) := by
  unfold startL; simp [h]
theorem rowsOf_get {x0 x1 y1 wd ht y0 : Int} {mx i j : Nat} : ∀ {my : Nat}, i < mx → j < my → (rowsOf x0 x1 y1 wd ht mx (startL y0 ht my))[j * mx + i]? = some (rectOf x1 y1 wd ht (y0 + (j : Int) * ht) (x0 + (i : Int) * wd)) := by
  intro my hi hj
  induction my with
  | zero => omega
  | succ my ih =>
    have hs : rowsOf x0 x1 y1 wd ht mx (startL y0 ht (my + 1)) = rowsOf x0 x1 y1 wd ht mx (startL y0 ht my) ++ (startL x0 wd mx).map (rectOf x1 y1 wd ht (y0 + (my : Int) * ht)) := by
      rw [startL_succ]; unfold rowsOf; rw [List.flatMap_append]; simp
    have hl : (rowsOf x0 x1 y1 wd ht mx (startL y0 ht my)).length = my * mx := by rw [rowsOf_length, startL_length]
    rw [hs]
    by_cases h : j < my
    · have hlt : j * mx + i < my * mx := by
        have : (j + 1) * mx ≤ my * mx := Nat.mul_le_mul_right mx (by omega)
        rw [Nat.add_mul] at this; omega
      rw [List.getElem?_append_left (by omega)]
      exact ih h
    · have : j = my := by omega
      subst this
      rw [List.getElem?_append_right (by omega), hl, show j * mx + i - j * mx = i by omega, List.getElem?_map, startL_get hi]; rfl
/-- the tile in row j, column i -/
theorem allT_get {r : R4} {w h : Int} (hv : validT r w h = true) {i j : Nat} (hi : i < (timesS (r.2.2.1 - r.1) w).toNat) (hj : j < (timesS (r.2.2.2 - r.2.1) h).toNat) :
    (allT r w h)[j * (timesS (r.2.2.1 - r.1) w).toNat + i]? = some (rectOf r.2.2.1 r.2.2.2 w h (r.2.1 + (j : Int) * h) (r.1 + (i : Int) * w)) := by
  unfold allT
  rw [hv, if_pos rfl]
  exact rowsOf_get hi hj
theorem allT_at {r : R4} {w h : Int} (hv : validT r w h = true) {k : Nat} {t : R4} (hk : (allT r w h)[k]? = some t) :
    ∃ i j : Nat, i < (timesS (r.2.2.1 - r.1) w).toNat ∧ j < (timesS (r.2.2.2 - r.2.1) h).toNat ∧ k = j * (timesS (r.2.2.1 - r.1) w).toNat + i ∧ t = rectOf r.2.2.1 r.2.2.2 w h (r.2.1 + (j : Int) * h) (r.1 + (i : Int) * w) := by
  have hlen := allT_length hv
  have hl := (List.getElem?_eq_some_iff.1 hk).1
  rw [hlen] at hl
  have hm : 0 < (timesS (r.2.2.1 - r.1) w).toNat := by
    rcases Nat.eq_zero_or_pos (timesS (r.2.2.1 - r.1) w).toNat with h0 | h0
    · rw [h0] at hl; simp at hl
    · exact h0
  have e1 := Nat.div_add_mod k (timesS (r.2.2.1 - r.1) w).toNat
  have e2 := Nat.mod_lt k hm
  have e3 : k / (timesS (r.2.2.1 - r.1) w).toNat < (timesS (r.2.2.2 - r.2.1) h).toNat := Nat.div_lt_of_lt_mul (by rw [Nat.mul_comm]; exact hl)
  refine ⟨_, _, e2, e3, by rw [Nat.mul_comm]; exact e1.symm, ?_⟩
  have := allT_get hv e2 e3
  rw [Nat.mul_comm, e1, hk] at this
  injection this
/-- one tile: not empty, in the page, not too large -/
theorem tile_facts {r : R4} {w h : Int} (hv : validT r w h = true) {t : R4} (ht : t ∈ allT r w h) :
    rectEmptyS t = false ∧ r.1 ≤ t.1 ∧ t.2.2.1 ≤ r.2.2.1 ∧ r.2.1 ≤ t.2.1 ∧ t.2.2.2 ≤ r.2.2.2 ∧ t.2.2.1 - t.1 ≤ w ∧ t.2.2.2 - t.2.1 ≤ h := by
  obtain ⟨k, hk⟩ := List.mem_iff_getElem?.1 ht
  obtain ⟨i, j, hi, hj, _, rfl⟩ := allT_at hv hk
  obtain ⟨v1, v2, v3, v4⟩ := validT_true hv
  obtain ⟨b1, b2, b3, b4, b5, b6⟩ := empty_false v1
  have l1 := (times_list (lo := r.1) (n := r.2.2.1 - r.1) (w := w) (by omega) (by omega) v2).1 i hi
  have l2 := (times_list (lo := r.2.1) (n := r.2.2.2 - r.2.1) (w := h) (by omega) (by omega) v3).1 j hj
  have p1 : 0 ≤ (i : Int) * w := Int.mul_nonneg (by omega) (by omega)
  have p2 : 0 ≤ (j : Int) * h := Int.mul_nonneg (by omega) (by omega)
  generalize (i : Int) * w = iw at *
  generalize (j : Int) * h = jh at *
  unfold rectOf
  simp only [rectEmptyS, rectValidS, inR, Bool.or_eq_false_iff, Bool.not_eq_false', Bool.and_eq_true, decide_eq_true_eq, decide_eq_false_iff_not]
  omega
theorem tile_has {r : R4} {w h x y : Int} (hv : validT r w h = true) {i j : Nat} (hi : i < (timesS (r.2.2.1 - r.1) w).toNat) (hj : j < (timesS (r.2.2.2 - r.2.1) h).toNat) :
    rectHasS (rectOf r.2.2.1 r.2.2.2 w h (r.2.1 + (j : Int) * h) (r.1 + (i : Int) * w)) x y = true ↔
      (r.1 + (i : Int) * w ≤ x ∧ x < r.1 + (i : Int) * w + min w (r.2.2.1 - (r.1 + (i : Int) * w))) ∧ (r.2.1 + (j : Int) * h ≤ y ∧ y < r.2.1 + (j : Int) * h + min h (r.2.2.2 - (r.2.1 + (j : Int) * h))) := by
  have hem := (tile_facts hv (List.mem_of_getElem? (allT_get hv hi hj))).1
  rw [canon_has, hem]
  unfold rectOf
  simp only [true_and]
  exact ⟨fun ⟨a, b, c, d⟩ => ⟨⟨a, b⟩, c, d⟩, fun ⟨⟨a, b⟩, c, d⟩ => ⟨a, b, c, d⟩⟩
theorem tile_ex {r : R4} {w h x y : Int} (hv : validT r w h = true) (hh : rectHasS r x y = true) : ∃ (k : Nat) (t : R4), (allT r w h)[k]? = some t ∧ rectHasS t x y = true := by
  obtain ⟨v1, v2, v3, v4⟩ := validT_true hv
  obtain ⟨b1, b2, b3, b4, b5, b6⟩ := empty_false v1
  obtain ⟨_, c1, c2, c3, c4⟩ := canon_has.1 hh
  obtain ⟨i, hi, i1, i2⟩ := one_dim (x0 := r.1) (n := r.2.2.1 - r.1) (w := w) (p := x) (by omega) (by omega) v2 c1 (by omega)
  obtain ⟨j, hj, j1, j2⟩ := one_dim (x0 := r.2.1) (n := r.2.2.2 - r.2.1) (w := h) (p := y) (by omega) (by omega) v3 c3 (by omega)
  refine ⟨_, _, allT_get hv hi hj, (tile_has hv hi hj).2 ⟨⟨i1, ?_⟩, j1, ?_⟩⟩
  · rw [show r.2.2.1 = r.1 + (r.2.2.1 - r.1) by omega]; exact i2
  · rw [show r.2.2.2 = r.2.1 + (r.2.2.2 - r.2.1) by omega]; exact j2
theorem tile_uniq {r : R4} {w h x y : Int} (hv : validT r w h = true) {k k' : Nat} {t t' : R4} (hk : (allT r w h)[k]? = some t) (hk' : (allT r w h)[k']? = some t') (h1 : rectHasS t x y = true) (h2 : rectHasS t' x y = true) : k = k' := by
  obtain ⟨v1, v2, v3, v4⟩ := validT_true hv
  obtain ⟨i, j, hi, hj, rfl, rfl⟩ := allT_at hv hk
  obtain ⟨i', j', hi', hj', rfl, rfl⟩ := allT_at hv hk'
  rw [tile_has hv hi hj] at h1
  rw [tile_has hv hi' hj'] at h2
  have e1 := one_uniq (i := i) (j := i') v2 h1.1.1 (by omega) h2.1.1 (by omega)
  have e2 := one_uniq (i := j) (j := j') v3 h1.2.1 (by omega) h2.2.1 (by omega)
  rw [e1, e2]
theorem tile_in {r : R4} {w h x y : Int} (hv : validT r w h = true) {t : R4} (ht : t ∈ allT r w h) (hh : rectHasS t x y = true) : rectHasS r x y = true := by
  obtain ⟨f1, f2, f3, f4, f5, _⟩ := tile_facts hv ht
  obtain ⟨v1, _⟩ := validT_true hv
  obtain ⟨_, c1, c2, c3, c4⟩ := canon_has.1 hh
  exact canon_has.2 ⟨v1, by omega, by omega, by omega, by omega⟩
/-! ### the areas add up -/
theorem sum_widths {w W : Int} (hw : 1 ≤ w) : ∀ k : Nat, (∀ i : Nat, i < k → (i : Int) * w < W) → ((List.range k).map fun i : Nat => min w (W - (i : Int) * w)).sum = (if k = 0 then 0 else min ((k : Int) * w) W) := by
  intro k
  induction k with
  | zero => intro _; rfl
  | succ k ih =>
    intro h
    rw [List.range_succ, List.map_append, List.sum_append, ih (fun i hi => h i (by omega))]
    have hk := h k (by omega)
    have e : ((k + 1 : Nat) : Int) * w = (k : Int) * w + w := by push_cast; rw [Int.add_mul, Int.one_mul]
    rw [if_neg (Nat.succ_ne_zero k), e]
    simp only [List.map_cons, List.map_nil, List.sum_cons, List.sum_nil]
    have hk0 : 0 ≤ (k : Int) * w := Int.mul_nonneg (by omega) (by omega)
    split
    · next h0 => subst h0; simp
    · omega
theorem area_tile {t : R4} (h : rectEmptyS t = false) : areaR t = (t.2.2.1 - t.1) * (t.2.2.2 - t.2.1) := by
  unfold areaR; rw [canon_self h]
theorem sum_mul (c : Int) (l : List Int) : (l.map fun x => x * c).sum = l.sum * c := by
  induction l with
  | nil => simp
  | cons a l ih => simp only [List.map_cons, List.sum_cons, ih, Int.add_mul]
theorem sum_flat {α : Type} (l : List α) (f : α → List Int) : (l.flatMap f).sum = (l.map fun a => (f a).sum).sum := by
  induction l with
  | nil => rfl
  | cons a l ih => simp only [List.flatMap_cons, List.sum_append, List.map_cons, List.sum_cons, ih]
theorem sum_areas {r : R4} {w h : Int} (hv : validT r w h = true) : ((allT r w h).map areaR).sum = areaR r := by
  obtain ⟨v1, v2, v3, v4⟩ := validT_true hv
  obtain ⟨b1, b2, b3, b4, b5, b6⟩ := empty_false v1
  have T1 := times_list (lo := r.1) (n := r.2.2.1 - r.1) (w := w) (by omega) (by omega) v2
  have T2 := times_list (lo := r.2.1) (n := r.2.2.2 - r.2.1) (w := h) (by omega) (by omega) v3
  obtain ⟨q1, _⟩ := times_facts (n := r.2.2.1 - r.1) (w := w) (by omega) (by omega) v2
  obtain ⟨q2, _⟩ := times_facts (n := r.2.2.2 - r.2.1) (w := h) (by omega) (by omega) v3
  have hall : (allT r w h).map areaR = (startL r.2.1 h (timesS (r.2.2.2 - r.2.1) h).toNat).flatMap fun y => (startL r.1 w (timesS (r.2.2.1 - r.1) w).toNat).map fun x => min w (r.2.2.1 - x) * min h (r.2.2.2 - y) := by
    have hmem := fun t (ht : t ∈ allT r w h) => area_tile (tile_facts hv ht).1
    rw [List.map_congr_left hmem]
    unfold allT
    rw [hv, if_pos rfl]
    unfold rowsOf
    rw [List.map_flatMap]
    congr 1
    funext y
    rw [List.map_map]
    refine List.map_congr_left fun x _ => ?_
    show (x + min w (r.2.2.1 - x) - x) * (y + min h (r.2.2.2 - y) - y) = _
    rw [show x + min w (r.2.2.1 - x) - x = min w (r.2.2.1 - x) by omega, show y + min h (r.2.2.2 - y) - y = min h (r.2.2.2 - y) by omega]
  have hp1 : (timesS (r.2.2.1 - r.1) w).toNat ≠ 0 := by omega
  have hp2 : (timesS (r.2.2.2 - r.2.1) h).toNat ≠ 0 := by omega
  generalize (timesS (r.2.2.1 - r.1) w).toNat = M1 at *
  generalize (timesS (r.2.2.2 - r.2.1) h).toNat = M2 at *
  have s1 : ((startL r.1 w M1).map fun x => min w (r.2.2.1 - x)).sum = r.2.2.1 - r.1 := by
    have := sum_widths (W := r.2.2.1 - r.1) v2 M1 (fun i hi => by have := T1.1 i hi; omega)
    rw [if_neg hp1, show min ((M1 : Int) * w) (r.2.2.1 - r.1) = r.2.2.1 - r.1 by have := T1.2; omega] at this
    rw [← this]
    unfold startL
    rw [List.map_map]
    congr 1
    refine List.map_congr_left fun i _ => ?_
    show min w (r.2.2.1 - (r.1 + (i : Int) * w)) = _
    omega
  have s2 : ((startL r.2.1 h M2).map fun y => min h (r.2.2.2 - y)).sum = r.2.2.2 - r.2.1 := by
    have := sum_widths (W := r.2.2.2 - r.2.1) v3 M2 (fun i hi => by have := T2.1 i hi; omega)
    rw [if_neg hp2, show min ((M2 : Int) * h) (r.2.2.2 - r.2.1) = r.2.2.2 - r.2.1 by have := T2.2; omega] at this
    rw [← this]
    unfold startL
    rw [List.map_map]
    congr 1
    refine List.map_congr_left fun i _ => ?_
    show min h (r.2.2.2 - (r.2.1 + (i : Int) * h)) = _
    omega
  rw [hall, sum_flat, area_tile v1]
  have : (fun y => ((startL r.1 w M1).map fun x => min w (r.2.2.1 - x) * min h (r.2.2.2 - y)).sum) = fun y => (r.2.2.1 - r.1) * min h (r.2.2.2 - y) := by
    funext y
    rw [← s1, ← sum_mul, List.map_map]; rfl
  rw [this, Int.mul_comm (r.2.2.1 - r.1) (r.2.2.2 - r.2.1), ← s2, ← sum_mul, List.map_map]
  congr 1
  refine List.map_congr_left fun y _ => ?_
  show _ = min h (r.2.2.2 - y) * _
  rw [Int.mul_comm]
end Go.Proofs.Ytefdheoalonbaaa
