/- TilesTouched: the plain law. -/
import Derived.Test.YtkjpcjmbhpfelaaRgArea
set_option linter.unusedVariables false
set_option linter.unusedSimpArgs false
namespace Go.Reg
open Go.Proofs.Ytkjpcjmbhpfelaa

theorem sorted_eq : ∀ {l m : List Int}, l.Pairwise (· < ·) → m.Pairwise (· < ·) → (∀ x, x ∈ l ↔ x ∈ m) → l = m := by
  intro l
  induction l with
  | nil =>
    intro m _ _ h
    cases m with
    | nil => rfl
    | cons b m => exact absurd ((h b).2 List.mem_cons_self) (by simp)
  | cons a l ih =>
    intro m hl hm h
    cases m with
    | nil => exact absurd ((h a).1 List.mem_cons_self) (by simp)
    | cons b m =>
      obtain ⟨hl1, hl2⟩ := List.pairwise_cons.1 hl
      obtain ⟨hm1, hm2⟩ := List.pairwise_cons.1 hm
      have hab : a = b := by
        rcases List.mem_cons.1 ((h a).1 List.mem_cons_self) with e | e
        · exact e
        · rcases List.mem_cons.1 ((h b).2 List.mem_cons_self) with e2 | e2
          · exact e2.symm
          · have := hl1 b e2; have := hm1 a e; omega
      subst hab
      rw [ih hl2 hm2 fun x => ?_]
      constructor
      · intro hx
        rcases List.mem_cons.1 ((h x).1 (List.mem_cons_of_mem _ hx)) with e | e
        · have := hl1 x hx; omega
        · exact e
      · intro hx
        rcases List.mem_cons.1 ((h x).2 (List.mem_cons_of_mem _ hx)) with e | e
        · have := hm1 x hx; omega
        · exact e
def timesN (n w : Int) : Nat := ((n - 1) / w + 1).toNat
theorem timesN_lt {n w : Int} (hn : 0 < n) (hw : 0 < w) (k : Nat) : k < timesN n w ↔ (k : Int) * w < n := by
  unfold timesN
  have h0 : 0 ≤ (n - 1) / w := Int.ediv_nonneg (by omega) (by omega)
  have h1 : (k : Int) ≤ (n - 1) / w ↔ (k : Int) * w ≤ n - 1 := Int.le_ediv_iff_mul_le hw
  constructor
  · intro h; have := h1.1 (by omega); omega
  · intro h; have := h1.2 (by omega); omega
theorem timesN_le {n w : Int} (hn : 0 < n) (hw : 0 < w) : (timesN n w : Int) ≤ n := by
  unfold timesN
  have h0 : 0 ≤ (n - 1) / w := Int.ediv_nonneg (by omega) (by omega)
  have h1 : (n - 1) / w ≤ n - 1 := Int.ediv_le_self _ (by omega)
  omega
theorem timesN_eq {n w : Int} (hn : 0 < n) (hw : 0 < w) : (timesN n w : Int) = (n - 1) / w + 1 := by
  unfold timesN
  have h0 : 0 ≤ (n - 1) / w := Int.ediv_nonneg (by omega) (by omega)
  omega
/-- steps wider than the page change nothing -/
theorem div_min {n w : Int} (h0 : 0 ≤ n) (h1 : n < 8192) (hw : 0 < w) : n / min w 8192 = n / w := by
  by_cases h : w ≤ 8192
  · rw [Int.min_eq_left h]
  · rw [Int.min_eq_right (by omega), Int.ediv_eq_zero_of_lt h0 h1, Int.ediv_eq_zero_of_lt h0 (by omega)]
def tileN (r : R4) (W H : Int) (A i : Nat) : R4 :=
  (r.1 + ((i % A : Nat) : Int) * W, r.2.1 + ((i / A : Nat) : Int) * H, min (r.1 + ((i % A : Nat) : Int) * W + W) r.2.2.1, min (r.2.1 + ((i / A : Nat) : Int) * H + H) r.2.2.2)
def tilesTo (r : R4) (W H : Int) (A n : Nat) : List R4 := (List.range n).map (tileN r W H A)
theorem tilesTo_len (r : R4) (W H : Int) (A n : Nat) : (tilesTo r W H A n).length = n := by simp [tilesTo]
theorem tilesTo_snoc (r : R4) (W H : Int) (A t k : Nat) (hk : k < A) : tilesTo r W H A (t * A + (k + 1)) = tilesTo r W H A (t * A + k) ++ [(r.1 + (k : Int) * W, r.2.1 + (t : Int) * H, min (r.1 + (k : Int) * W + W) r.2.2.1, min (r.2.1 + (t : Int) * H + H) r.2.2.2)] := by
  have e1 : (t * A + k) % A = k := by rw [Nat.mul_comm, Nat.mul_add_mod, Nat.mod_eq_of_lt hk]
  have e2 : (t * A + k) / A = t := by rw [Nat.mul_comm, Nat.mul_add_div (by omega), Nat.div_eq_of_lt hk, Nat.add_zero]
  unfold tilesTo
  rw [← Nat.add_assoc, List.range_succ, List.map_append]
  simp only [List.map_cons, List.map_nil, tileN, e1, e2]
def badT (r : R4) (w h : Int) : Bool := rectEmptyS r || decide (w < 1) || decide (h < 1)
def tileL (r : R4) (w h : Int) : List R4 :=
  if badT r w h then [] else tilesTo r (min w 8192) (min h 8192) (timesN (r.2.2.1 - r.1) (min w 8192)) (timesN (r.2.2.2 - r.2.1) (min h 8192) * timesN (r.2.2.1 - r.1) (min w 8192))
def tch (l : List R4) (t : R4) : Bool := l.any fun q => !rectEmptyS (interS t q)
/-- the tiles that rectangles touch -/
def touchTo (T l : List R4) (n : Nat) : List Int := ((List.range n).filter fun i => T[i]?.any (tch l)).map fun i : Nat => (i : Int)
theorem touchTo_succ {T l : List R4} {n : Nat} {t : R4} (h : T[n]? = some t) : touchTo T l (n + 1) = touchTo T l n ++ if tch l t then [(n : Int)] else [] := by
  unfold touchTo
  rw [List.range_succ, List.filter_append, List.map_append]
  congr 1
  cases hc : tch l t <;> simp [h, hc]
theorem touchTo_len (T l : List R4) (n : Nat) : (touchTo T l n).length ≤ n := by
  unfold touchTo
  rw [List.length_map]
  exact Nat.le_trans (List.length_filter_le _ _) (by simp)
theorem touchTo_sorted (T l : List R4) (n : Nat) : (touchTo T l n).Pairwise (· < ·) := by
  unfold touchTo
  refine List.pairwise_map.2 (List.Pairwise.imp (fun {a b} h => ?_) (List.Pairwise.filter _ List.pairwise_lt_range))
  omega
theorem mem_touchTo {T l : List R4} {n : Nat} {v : Int} : v ∈ touchTo T l n ↔ ∃ i : Nat, i < n ∧ v = i ∧ ∃ t, T[i]? = some t ∧ tch l t = true := by
  unfold touchTo
  simp only [List.mem_map, List.mem_filter, List.mem_range, Option.any_eq_true]
  constructor
  · rintro ⟨i, ⟨h1, t, h2, h3⟩, rfl⟩; exact ⟨i, h1, rfl, t, h2, h3⟩
  · rintro ⟨i, h1, rfl, t, h2, h3⟩; exact ⟨i, ⟨h1, t, h2, h3⟩, rfl⟩
theorem inter_ne {a b : R4} : rectEmptyS (interS a b) = false ↔ rectEmptyS a = false ∧ rectEmptyS b = false ∧ max a.1 b.1 < min a.2.2.1 b.2.2.1 ∧ max a.2.1 b.2.1 < min a.2.2.2 b.2.2.2 := by
  by_cases h : rectEmptyS a = true ∨ rectEmptyS b = true
  · rw [inter_empty h]
    constructor
    · intro e; exact absurd e (by decide)
    · rintro ⟨h1, h2, _⟩; rw [h1, h2] at h; simp at h
  · have ha : rectEmptyS a = false := by simpa using fun e => h (.inl e)
    have hb : rectEmptyS b = false := by simpa using fun e => h (.inr e)
    have ba := empty_false ha
    have bb := empty_false hb
    unfold interS
    rw [canon_self ha, canon_self hb]
    generalize hX : ((max a.1 b.1, max a.2.1 b.2.1, min a.2.2.1 b.2.2.1, min a.2.2.2 b.2.2.2) : R4) = X
    have e : rectEmptyS (rectCanonS X) = rectEmptyS X := by
      cases hx : rectEmptyS X
      · rw [canon_self hx, hx]
      · unfold rectCanonS; rw [hx]; rfl
    rw [e, ← hX]
    constructor
    · intro hx
      have := empty_false hx
      exact ⟨ha, hb, by simpa using this.2.2.2.2.1, by simpa using this.2.2.2.2.2⟩
    · rintro ⟨_, _, h1, h2⟩
      exact empty_mk (by simp; omega) h1 (by simp; omega) (by simp; omega) h2 (by simp; omega)
theorem inter_val {a b : R4} (h : rectEmptyS (interS a b) = false) : interS a b = (max a.1 b.1, max a.2.1 b.2.1, min a.2.2.1 b.2.2.1, min a.2.2.2 b.2.2.2) := by
  obtain ⟨ha, hb, h1, h2⟩ := inter_ne.1 h
  have ba := empty_false ha
  have bb := empty_false hb
  unfold interS
  rw [canon_self ha, canon_self hb]
  exact canon_self (empty_mk (by simp; omega) h1 (by simp; omega) (by simp; omega) h2 (by simp; omega))
theorem span_iff {r0 r2 q0 q2 W t : Int} (hW : 0 < W) (ht : 0 ≤ t) : max (r0 + t * W) q0 < min (min (r0 + t * W + W) r2) q2 ↔ max q0 r0 < min q2 r2 ∧ (max q0 r0 - r0) / W ≤ t ∧ t ≤ (min q2 r2 - 1 - r0) / W := by
  have h1 : (max q0 r0 - r0) / W < t + 1 ↔ max q0 r0 - r0 < (t + 1) * W := Int.ediv_lt_iff_lt_mul hW
  have h2 : t ≤ (min q2 r2 - 1 - r0) / W ↔ t * W ≤ min q2 r2 - 1 - r0 := Int.le_ediv_iff_mul_le hW
  have h3 : (t + 1) * W = t * W + W := by rw [Int.add_mul, Int.one_mul]
  have h4 : 0 ≤ t * W := Int.mul_nonneg ht (by omega)
  rw [h3] at h1
  have h1' : (max q0 r0 - r0) / W ≤ t ↔ max q0 r0 - r0 < t * W + W := by rw [← h1]; omega
  rw [h1', h2]
  generalize t * W = P at *
  omega
/-- the numbers that the program stores -/
def Stored (l : List R4) (r : R4) (w h : Int) (v : Int) : Prop :=
  ∃ q ∈ l, rectEmptyS (interS q r) = false ∧ ∃ y x, ((interS q r).2.1 - r.2.1) / h ≤ y ∧ y ≤ ((interS q r).2.2.2 - 1 - r.2.1) / h ∧ ((interS q r).1 - r.1) / w ≤ x ∧ x ≤ ((interS q r).2.2.1 - 1 - r.1) / w ∧ v = y * ((r.2.2.1 - r.1 - 1) / w + 1) + x
theorem stored_iff {l : List R4} {r : R4} {w h : Int} (hr : rectEmptyS r = false) (hw : 0 < w) (hh : 0 < h) (v : Int) : v ∈ touchTo (tileL r w h) l (tileL r w h).length ↔ Stored l r w h v := by
  have br := empty_false hr
  have hbad : badT r w h = false := by
    unfold badT
    simp [hr]; omega
  have hT : tileL r w h = tilesTo r (min w 8192) (min h 8192) (timesN (r.2.2.1 - r.1) (min w 8192)) (timesN (r.2.2.2 - r.2.1) (min h 8192) * timesN (r.2.2.1 - r.1) (min w 8192)) := by
    unfold tileL; rw [hbad]; rfl
  rw [mem_touchTo, hT, tilesTo_len]
  have hA : (timesN (r.2.2.1 - r.1) (min w 8192) : Int) = (r.2.2.1 - r.1 - 1) / w + 1 := by
    rw [timesN_eq (by omega) (by omega), div_min (by omega) (by omega) hw]
  have hB : (timesN (r.2.2.2 - r.2.1) (min h 8192) : Int) = (r.2.2.2 - r.2.1 - 1) / h + 1 := by
    rw [timesN_eq (by omega) (by omega), div_min (by omega) (by omega) hh]
  have hApos : 0 < timesN (r.2.2.1 - r.1) (min w 8192) := by
    have := Int.ediv_nonneg (a := r.2.2.1 - r.1 - 1) (b := w) (by omega) (by omega)
    omega
  unfold Stored
  have key : ∀ (i : Nat) (q : R4), i < timesN (r.2.2.2 - r.2.1) (min h 8192) * timesN (r.2.2.1 - r.1) (min w 8192) →
      (rectEmptyS (interS (tileN r (min w 8192) (min h 8192) (timesN (r.2.2.1 - r.1) (min w 8192)) i) q) = false ↔
        rectEmptyS (interS q r) = false ∧ ((interS q r).2.1 - r.2.1) / h ≤ ((i / timesN (r.2.2.1 - r.1) (min w 8192) : Nat) : Int) ∧ ((i / timesN (r.2.2.1 - r.1) (min w 8192) : Nat) : Int) ≤ ((interS q r).2.2.2 - 1 - r.2.1) / h ∧ ((interS q r).1 - r.1) / w ≤ ((i % timesN (r.2.2.1 - r.1) (min w 8192) : Nat) : Int) ∧ ((i % timesN (r.2.2.1 - r.1) (min w 8192) : Nat) : Int) ≤ ((interS q r).2.2.1 - 1 - r.1) / w) := by
    intro i q hi
    have hx : i % timesN (r.2.2.1 - r.1) (min w 8192) < timesN (r.2.2.1 - r.1) (min w 8192) := Nat.mod_lt _ hApos
    have hy : i / timesN (r.2.2.1 - r.1) (min w 8192) < timesN (r.2.2.2 - r.2.1) (min h 8192) := Nat.div_lt_of_lt_mul (by rw [Nat.mul_comm]; exact hi)
    have lx := (timesN_lt (n := r.2.2.1 - r.1) (w := min w 8192) (by omega) (by omega) _).1 hx
    have ly := (timesN_lt (n := r.2.2.2 - r.2.1) (w := min h 8192) (by omega) (by omega) _).1 hy
    have sx := span_iff (r0 := r.1) (r2 := r.2.2.1) (q0 := q.1) (q2 := q.2.2.1) (W := min w 8192) (t := ((i % timesN (r.2.2.1 - r.1) (min w 8192) : Nat) : Int)) (by omega) (Int.natCast_nonneg _)
    have sy := span_iff (r0 := r.2.1) (r2 := r.2.2.2) (q0 := q.2.1) (q2 := q.2.2.2) (W := min h 8192) (t := ((i / timesN (r.2.2.1 - r.1) (min w 8192) : Nat) : Int)) (by omega) (Int.natCast_nonneg _)
    have px : 0 ≤ ((i % timesN (r.2.2.1 - r.1) (min w 8192) : Nat) : Int) * min w 8192 := Int.mul_nonneg (Int.natCast_nonneg _) (by omega)
    have py : 0 ≤ ((i / timesN (r.2.2.1 - r.1) (min w 8192) : Nat) : Int) * min h 8192 := Int.mul_nonneg (Int.natCast_nonneg _) (by omega)
    have ht : rectEmptyS (tileN r (min w 8192) (min h 8192) (timesN (r.2.2.1 - r.1) (min w 8192)) i) = false := by
      refine empty_mk ?_ ?_ ?_ ?_ ?_ ?_ <;> simp only [tileN] <;> omega
    rw [inter_ne]
    show (_ ∧ _ ∧ max (r.1 + ((i % timesN (r.2.2.1 - r.1) (min w 8192) : Nat) : Int) * min w 8192) q.1 < min (min (r.1 + ((i % timesN (r.2.2.1 - r.1) (min w 8192) : Nat) : Int) * min w 8192 + min w 8192) r.2.2.1) q.2.2.1 ∧ max (r.2.1 + ((i / timesN (r.2.2.1 - r.1) (min w 8192) : Nat) : Int) * min h 8192) q.2.1 < min (min (r.2.1 + ((i / timesN (r.2.2.1 - r.1) (min w 8192) : Nat) : Int) * min h 8192 + min h 8192) r.2.2.2) q.2.2.2) ↔ _
    rw [sx, sy]
    generalize ((i % timesN (r.2.2.1 - r.1) (min w 8192) : Nat) : Int) = tx at *
    generalize ((i / timesN (r.2.2.1 - r.1) (min w 8192) : Nat) : Int) = ty at *
    constructor
    · rintro ⟨_, hq, ⟨a1, a2, a3⟩, b1, b2, b3⟩
      have hm : rectEmptyS (interS q r) = false := inter_ne.2 ⟨hq, hr, a1, b1⟩
      have bq := empty_false hq
      rw [div_min (by omega) (by omega) hw] at a2 a3
      rw [div_min (by omega) (by omega) hh] at b2 b3
      refine ⟨hm, ?_⟩
      rw [inter_val hm]
      exact ⟨b2, b3, a2, a3⟩
    · rintro ⟨hm, b2, b3, a2, a3⟩
      obtain ⟨hq, _, a1, b1⟩ := inter_ne.1 hm
      have bq := empty_false hq
      rw [inter_val hm] at b2 b3 a2 a3
      dsimp only at b2 b3 a2 a3
      rw [div_min (by omega) (by omega) hw, div_min (by omega) (by omega) hw, div_min (by omega) (by omega) hh, div_min (by omega) (by omega) hh]
      exact ⟨ht, hq, ⟨a1, a2, a3⟩, b1, b2, b3⟩
  constructor
  · rintro ⟨i, hi, rfl, t, ht, htc⟩
    unfold tilesTo at ht
    rw [List.getElem?_map, List.getElem?_range hi] at ht
    injection ht with ht
    subst ht
    obtain ⟨q, hq, hne⟩ := List.any_eq_true.1 htc
    obtain ⟨k1, k2, k3, k4, k5⟩ := (key i q hi).1 (by simpa using hne)
    refine ⟨q, hq, k1, _, _, k2, k3, k4, k5, ?_⟩
    rw [← hA, ← Int.natCast_mul, ← Int.natCast_add]
    congr 1
    rw [Nat.mul_comm, Nat.div_add_mod]
  · rintro ⟨q, hq, hm, y, x, k2, k3, k4, k5, rfl⟩
    obtain ⟨hq1, _, a1, b1⟩ := inter_ne.1 hm
    have hv := inter_val hm
    have bq := empty_false hq1
    have y0 : 0 ≤ y := Int.le_trans (Int.ediv_nonneg (by rw [hv]; dsimp only; omega) (by omega)) k2
    have x0 : 0 ≤ x := Int.le_trans (Int.ediv_nonneg (by rw [hv]; dsimp only; omega) (by omega)) k4
    have y1 : y ≤ (r.2.2.2 - r.2.1 - 1) / h := Int.le_trans k3 (Int.ediv_le_ediv hh (by rw [hv]; dsimp only; omega))
    have x1 : x ≤ (r.2.2.1 - r.1 - 1) / w := Int.le_trans k5 (Int.ediv_le_ediv hw (by rw [hv]; dsimp only; omega))
    obtain ⟨X, rfl⟩ := Int.eq_ofNat_of_zero_le x0
    obtain ⟨Y, rfl⟩ := Int.eq_ofNat_of_zero_le y0
    have hXA : X < timesN (r.2.2.1 - r.1) (min w 8192) := by omega
    have hYB : Y < timesN (r.2.2.2 - r.2.1) (min h 8192) := by omega
    rw [← hA]
    generalize hAA : timesN (r.2.2.1 - r.1) (min w 8192) = A at *
    generalize timesN (r.2.2.2 - r.2.1) (min h 8192) = T at *
    have hi : Y * A + X < T * A := by
      have := Nat.mul_le_mul_right A (show Y + 1 ≤ T from hYB)
      rw [Nat.add_mul, Nat.one_mul] at this
      omega
    have e1 : (Y * A + X) % A = X := by rw [Nat.mul_comm, Nat.mul_add_mod, Nat.mod_eq_of_lt hXA]
    have e2 : (Y * A + X) / A = Y := by rw [Nat.mul_comm, Nat.mul_add_div (by omega), Nat.div_eq_of_lt hXA, Nat.add_zero]
    refine ⟨Y * A + X, hi, by push_cast; rfl, _, by unfold tilesTo; rw [List.getElem?_map, List.getElem?_range hi]; rfl, List.any_eq_true.2 ⟨q, hq, ?_⟩⟩
    have := (key (Y * A + X) q hi).2 ⟨hm, by rw [e2]; exact k2, by rw [e2]; exact k3, by rw [e1]; exact k4, by rw [e1]; exact k5⟩
    simp [this]
theorem touch_eq {l : List R4} {r : R4} {w h : Int} (hr : rectEmptyS r = false) (hw : 0 < w) (hh : 0 < h) {ys : List Int} (hs : ys.Pairwise (· < ·)) (hm : ∀ v, v ∈ ys ↔ Stored l r w h v) : ys = touchTo (tileL r w h) l (tileL r w h).length :=
  sorted_eq hs (touchTo_sorted _ _ _) fun v => (hm v).trans (stored_iff hr hw hh v).symm
theorem touch_bad {l : List R4} {r : R4} {w h : Int} (hb : badT r w h = true) : touchTo (tileL r w h) l (tileL r w h).length = [] := by
  have : tileL r w h = [] := by unfold tileL; rw [hb]; rfl
  rw [this]; rfl
end Go.Reg
