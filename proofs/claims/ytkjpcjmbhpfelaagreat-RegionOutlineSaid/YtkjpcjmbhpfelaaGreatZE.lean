/- Texts put together: RgGrid, RgRefP. -/
import Derived.Test.YtkjpcjmbhpfelaaGreatZC
import Derived.Test.YtkjpcjmbhpfelaaGreatRgRing2
/- Outlines of the reference: boundary edges of the cells of a grid. Plain law: no program stands here. -/
set_option linter.unusedVariables false
set_option linter.unusedSimpArgs false
namespace Go.Reg
open Go.Proofs.YtkjpcjmbhpfelaaGreat

/-! sorted cuts -/
theorem srt_lt {xs : List Int} (h : xs.Pairwise (· < ·)) {i j : Nat} {a b : Int} (hi : xs[i]? = some a) (hj : xs[j]? = some b) : i < j ↔ a < b := by
  obtain ⟨i1, i2⟩ := List.getElem?_eq_some_iff.1 hi
  obtain ⟨j1, j2⟩ := List.getElem?_eq_some_iff.1 hj
  have hp := List.pairwise_iff_getElem.1 h
  constructor
  · intro k; have := hp i j i1 j1 k; rw [i2, j2] at this; exact this
  · intro k
    rcases Nat.lt_trichotomy i j with q | q | q
    · exact q
    · subst q; rw [hi] at hj; injection hj with hj; omega
    · have := hp j i j1 i1 q; rw [i2, j2] at this; omega
/-- x lies in the cell i -/
def InC (xs : List Int) (i : Nat) (x : Int) : Prop := ∃ a a', xs[i]? = some a ∧ xs[i + 1]? = some a' ∧ a ≤ x ∧ x < a'
theorem InC.uniq {xs : List Int} (h : xs.Pairwise (· < ·)) {i j : Nat} {x : Int} (hi : InC xs i x) (hj : InC xs j x) : i = j := by
  obtain ⟨a, a', h1, h2, h3, h4⟩ := hi
  obtain ⟨b, b', k1, k2, k3, k4⟩ := hj
  have q1 := (srt_lt h h1 k2).2 (by omega)
  have q2 := (srt_lt h k1 h2).2 (by omega)
  omega
theorem find_cell {x : Int} : ∀ (xs : List Int), xs.Pairwise (· < ·) → ∀ u ∈ xs, u ≤ x → ∀ v ∈ xs, x < v → ∃ i, InC xs i x := by
  intro xs
  induction xs with
  | nil => intro _ u hu; cases hu
  | cons a xs ih =>
    intro hp u hu hux v hv hxv
    obtain ⟨p1, p2⟩ := List.pairwise_cons.1 hp
    have hav : a ≤ x := by
      rcases List.mem_cons.1 hu with rfl | hu
      · exact hux
      · have := p1 u hu; omega
    have hvm : v ∈ xs := by
      rcases List.mem_cons.1 hv with rfl | hv
      · omega
      · exact hv
    cases xs with
    | nil => cases hvm
    | cons b xs =>
      by_cases hb : b ≤ x
      · obtain ⟨i, a1, a2, i1, i2, i3, i4⟩ := ih p2 b List.mem_cons_self hb v hvm hxv
        exact ⟨i + 1, a1, a2, by simpa using i1, by simpa using i2, i3, i4⟩
      · exact ⟨0, a, b, rfl, rfl, hav, by omega⟩
structure Grid (S : Pix) (xs ys : List Int) : Prop where
  sx : xs.Pairwise (· < ·)
  sy : ys.Pairwise (· < ·)
  cell : ∀ i k x y x' y', InC xs i x → InC xs i x' → InC ys k y → InC ys k y' → S x y = S x' y'
  inx : ∀ x y, S x y = true → ∃ i, InC xs i x
  iny : ∀ x y, S x y = true → ∃ k, InC ys k y
theorem side_same {xs : List Int} (h : xs.Pairwise (· < ·)) {i : Nat} {x x' u : Int} (hu : u ∈ xs) (h1 : InC xs i x) (h2 : InC xs i x') : u ≤ x ↔ u ≤ x' := by
  obtain ⟨j, hj⟩ := List.mem_iff_getElem?.1 hu
  have key : ∀ {x x' : Int}, InC xs i x → InC xs i x' → u ≤ x → u ≤ x' := by
    rintro x x' ⟨a, a', h1, h2, h3, h4⟩ ⟨b, b', k1, k2, k3, k4⟩ hux
    rw [h1] at k1; injection k1 with k1
    have := (srt_lt h hj h2).2 (by omega)
    rcases Nat.lt_or_ge j i with q | q
    · have := (srt_lt h hj h1).1 q; omega
    · have : j = i := by omega
      subst this
      rw [h1] at hj; injection hj with hj; omega
  exact ⟨key h1 h2, key h2 h1⟩
theorem grid_of {S : Pix} {L : List R4} {xs ys : List Int} (hg : Geo S L) (sx : xs.Pairwise (· < ·)) (sy : ys.Pairwise (· < ·)) (hx : ∀ r ∈ L, r.1 ∈ xs ∧ r.2.2.1 ∈ xs) (hy : ∀ r ∈ L, r.2.1 ∈ ys ∧ r.2.2.2 ∈ ys) : Grid S xs ys := by
  have half : ∀ i k x y x' y', InC xs i x → InC xs i x' → InC ys k y → InC ys k y' → S x y = true → S x' y' = true := by
    intro i k x y x' y' h1 h2 h3 h4 hS
    obtain ⟨r, hr, hh⟩ := hg.findR hS
    obtain ⟨m0, m1, m2, m3, m4⟩ := hasR_iff.1 hh
    refine hg.sub hr _ _ (hasR_iff.2 ⟨m0, ?_, ?_, ?_, ?_⟩)
    · exact (side_same sx (hx r hr).1 h1 h2).1 m1
    · have := side_same sx (hx r hr).2 h1 h2; omega
    · exact (side_same sy (hy r hr).1 h3 h4).1 m3
    · have := side_same sy (hy r hr).2 h3 h4; omega
  refine ⟨sx, sy, fun i k x y x' y' h1 h2 h3 h4 => ?_, fun x y hS => ?_, fun x y hS => ?_⟩
  · rw [Bool.eq_iff_iff]; exact ⟨half i k x y x' y' h1 h2 h3 h4, half i k x' y' x y h2 h1 h4 h3⟩
  · obtain ⟨r, hr, hh⟩ := hg.findR hS
    obtain ⟨m0, m1, m2, m3, m4⟩ := hasR_iff.1 hh
    exact find_cell xs sx _ (hx r hr).1 m1 _ (hx r hr).2 m2
  · obtain ⟨r, hr, hh⟩ := hg.findR hS
    obtain ⟨m0, m1, m2, m3, m4⟩ := hasR_iff.1 hh
    exact find_cell ys sy _ (hy r hr).1 m3 _ (hy r hr).2 m4
/-- the cell (i, k) belongs to S -/
def inG (S : Pix) (xs ys : List Int) (i k : Int) : Bool := decide (0 ≤ i) && decide (0 ≤ k) && decide (i + 1 < xs.length) && decide (k + 1 < ys.length) && S (xs.getD i.toNat 0) (ys.getD k.toNat 0)
theorem corner_in {xs : List Int} (h : xs.Pairwise (· < ·)) {i : Nat} (hi : i + 1 < xs.length) : InC xs i (xs.getD i 0) ∧ xs[i]? = some (xs.getD i 0) ∧ xs[i + 1]? = some (xs.getD (i + 1) 0) ∧ xs.getD i 0 < xs.getD (i + 1) 0 := by
  have h1 : xs[i]? = some (xs.getD i 0) := by rw [List.getD_eq_getElem?_getD, List.getElem?_eq_getElem (by omega)]; rfl
  have h2 : xs[i + 1]? = some (xs.getD (i + 1) 0) := by rw [List.getD_eq_getElem?_getD, List.getElem?_eq_getElem hi]; rfl
  have h3 := (srt_lt h h1 h2).1 (by omega)
  exact ⟨⟨_, _, h1, h2, Int.le_refl _, h3⟩, h1, h2, h3⟩
theorem Grid.inG_iff {S : Pix} {xs ys : List Int} (h : Grid S xs ys) {i k : Int} : inG S xs ys i k = true ↔ ∃ (i' k' : Nat), i = i' ∧ k = k' ∧ i' + 1 < xs.length ∧ k' + 1 < ys.length ∧ ∃ x y, InC xs i' x ∧ InC ys k' y ∧ S x y = true := by
  unfold inG
  simp only [Bool.and_eq_true, decide_eq_true_eq]
  constructor
  · rintro ⟨⟨⟨⟨h1, h2⟩, h3⟩, h4⟩, h5⟩
    refine ⟨i.toNat, k.toNat, by omega, by omega, by omega, by omega, _, _, (corner_in h.sx (by omega)).1, (corner_in h.sy (by omega)).1, h5⟩
  · rintro ⟨i', k', rfl, rfl, h3, h4, x, y, h5, h6, h7⟩
    refine ⟨⟨⟨⟨by omega, by omega⟩, by omega⟩, by omega⟩, ?_⟩
    rw [Int.toNat_natCast, Int.toNat_natCast, ← h7]
    exact h.cell _ _ _ _ _ _ (corner_in h.sx h3).1 h5 (corner_in h.sy h4).1 h6
theorem InC.lt {xs : List Int} {i : Nat} {x : Int} (h : InC xs i x) : i + 1 < xs.length := by
  obtain ⟨a, a', _, h2, _⟩ := h
  exact (List.getElem?_eq_some_iff.1 h2).1
/-- which cell a pixel belongs to, and whether it is of S -/
theorem Grid.pix {S : Pix} {xs ys : List Int} (h : Grid S xs ys) {i k : Nat} {x y : Int} (hx : InC xs i x) (hy : InC ys k y) : inG S xs ys i k = S x y := by
  rw [Bool.eq_iff_iff, h.inG_iff]
  constructor
  · rintro ⟨i', k', e1, e2, _, _, u, v, h1, h2, h3⟩
    have : i = i' := by omega
    have : k = k' := by omega
    subst i' k'
    rw [← h3]; exact h.cell _ _ _ _ _ _ hx h1 hy h2
  · intro hS; exact ⟨i, k, rfl, rfl, hx.lt, hy.lt, x, y, hx, hy, hS⟩
abbrev GE := Nat × Nat × Nat
/-- the cell at the other side -/
def nbG (g : GE) : Int × Int := match g.2.2 with
  | 0 => ((g.1 : Int), (g.2.1 : Int) - 1)
  | 1 => ((g.1 : Int) + 1, (g.2.1 : Int))
  | 2 => ((g.1 : Int), (g.2.1 : Int) + 1)
  | _ => ((g.1 : Int) - 1, (g.2.1 : Int))
def oneG (S : Pix) (xs ys : List Int) (g : GE) : List GE := if inG S xs ys (nbG g).1 (nbG g).2 then [] else [g]
def cellG (S : Pix) (xs ys : List Int) (i k : Nat) : List GE := if inG S xs ys i k then ((oneG S xs ys (i, k, 0) ++ oneG S xs ys (i, k, 1)) ++ oneG S xs ys (i, k, 2)) ++ oneG S xs ys (i, k, 3) else []
def rowG (S : Pix) (xs ys : List Int) (n k : Nat) : List GE := (List.range n).flatMap fun i => cellG S xs ys i k
def boundG (S : Pix) (xs ys : List Int) : List GE := (List.range (ys.length - 1)).flatMap fun k => rowG S xs ys (xs.length - 1) k
theorem mem_oneG {S : Pix} {xs ys : List Int} {g h : GE} : g ∈ oneG S xs ys h ↔ g = h ∧ inG S xs ys (nbG h).1 (nbG h).2 = false := by
  unfold oneG
  split
  · rename_i q; simp [q]
  · rename_i q; simp at q; simp [q]
theorem mem_cellG {S : Pix} {xs ys : List Int} {i k : Nat} {g : GE} : g ∈ cellG S xs ys i k ↔ inG S xs ys i k = true ∧ g.1 = i ∧ g.2.1 = k ∧ g.2.2 < 4 ∧ inG S xs ys (nbG g).1 (nbG g).2 = false := by
  unfold cellG
  split
  · rename_i q
    simp only [List.mem_append, mem_oneG]
    obtain ⟨a, b, d⟩ := g
    constructor
    · rintro (((⟨e, h⟩ | ⟨e, h⟩) | ⟨e, h⟩) | ⟨e, h⟩)
      all_goals
        simp only [Prod.mk.injEq] at e
        obtain ⟨rfl, rfl, rfl⟩ := e
        exact ⟨q, rfl, rfl, by dsimp only; omega, h⟩
    · rintro ⟨_, h1, h2, h3, h4⟩
      dsimp only at h1 h2 h3
      subst h1 h2
      rcases (show d = 0 ∨ d = 1 ∨ d = 2 ∨ d = 3 by omega) with rfl | rfl | rfl | rfl
      · exact .inl (.inl (.inl ⟨rfl, h4⟩))
      · exact .inl (.inl (.inr ⟨rfl, h4⟩))
      · exact .inl (.inr ⟨rfl, h4⟩)
      · exact .inr ⟨rfl, h4⟩
  · rename_i q; simp [q]
theorem mem_boundG {S : Pix} {xs ys : List Int} {g : GE} : g ∈ boundG S xs ys ↔ g.1 + 1 < xs.length ∧ g.2.1 + 1 < ys.length ∧ inG S xs ys g.1 g.2.1 = true ∧ g.2.2 < 4 ∧ inG S xs ys (nbG g).1 (nbG g).2 = false := by
  unfold boundG rowG
  simp only [List.mem_flatMap, List.mem_range, mem_cellG]
  constructor
  · rintro ⟨k, hk, i, hi, h1, rfl, rfl, h2, h3⟩
    exact ⟨by omega, by omega, h1, h2, h3⟩
  · rintro ⟨h1, h2, h3, h4, h5⟩
    exact ⟨g.2.1, by omega, g.1, by omega, h3, rfl, rfl, h4, h5⟩
theorem one_nodup {S : Pix} {xs ys : List Int} (g : GE) : (oneG S xs ys g).Nodup := by unfold oneG; split <;> simp
theorem cell_nodup {S : Pix} {xs ys : List Int} (i k : Nat) : (cellG S xs ys i k).Nodup := by
  unfold cellG
  split
  · refine List.nodup_append.2 ⟨List.nodup_append.2 ⟨List.nodup_append.2 ⟨one_nodup _, one_nodup _, ?_⟩, one_nodup _, ?_⟩, one_nodup _, ?_⟩
    all_goals
      intro a ha b hb e
      simp only [List.mem_append, mem_oneG] at ha hb
      subst e
    · rw [ha.1] at hb; simp at hb
    · rcases ha with ha | ha <;> rw [ha.1] at hb <;> simp at hb
    · rcases ha with (ha | ha) | ha <;> rw [ha.1] at hb <;> simp at hb
  · simp
theorem range_pw {n : Nat} : (List.range n).Pairwise (· ≠ ·) := List.nodup_range
theorem bound_nodup (S : Pix) (xs ys : List Int) : (boundG S xs ys).Nodup := by
  unfold boundG rowG
  rw [List.nodup_iff_pairwise_ne, List.pairwise_flatMap]
  refine ⟨fun k _ => ?_, range_pw.imp fun {k k'} hne a ha b hb e => ?_⟩
  · rw [List.pairwise_flatMap]
    refine ⟨fun i _ => cell_nodup i k, range_pw.imp fun {i i'} hne a ha b hb e => ?_⟩
    subst e
    exact hne ((mem_cellG.1 ha).2.1.symm.trans (mem_cellG.1 hb).2.1)
  · subst e
    obtain ⟨i, _, h1⟩ := List.mem_flatMap.1 ha
    obtain ⟨i', _, h2⟩ := List.mem_flatMap.1 hb
    exact hne ((mem_cellG.1 h1).2.2.1.symm.trans (mem_cellG.1 h2).2.2.1)
/-- the corner a piece begins at -/
def frG (g : GE) : Nat × Nat := match g.2.2 with
  | 0 => (g.1, g.2.1)
  | 1 => (g.1 + 1, g.2.1)
  | 2 => (g.1 + 1, g.2.1 + 1)
  | _ => (g.1, g.2.1 + 1)
def toG (g : GE) : Nat × Nat := match g.2.2 with
  | 0 => (g.1 + 1, g.2.1)
  | 1 => (g.1 + 1, g.2.1 + 1)
  | 2 => (g.1, g.2.1 + 1)
  | _ => (g.1, g.2.1)
def edgG (xs ys : List Int) (g : GE) : Edg := (xs.getD (frG g).1 0, ys.getD (frG g).2 0, xs.getD (toG g).1 0, ys.getD (toG g).2 0, g.2.2)
theorem edgG0 (xs ys : List Int) (i k : Nat) : edgG xs ys (i, k, 0) = (xs.getD i 0, ys.getD k 0, xs.getD (i + 1) 0, ys.getD k 0, 0) := rfl
theorem edgG1 (xs ys : List Int) (i k : Nat) : edgG xs ys (i, k, 1) = (xs.getD (i + 1) 0, ys.getD k 0, xs.getD (i + 1) 0, ys.getD (k + 1) 0, 1) := rfl
theorem edgG2 (xs ys : List Int) (i k : Nat) : edgG xs ys (i, k, 2) = (xs.getD (i + 1) 0, ys.getD (k + 1) 0, xs.getD i 0, ys.getD (k + 1) 0, 2) := rfl
theorem edgG3 (xs ys : List Int) (i k : Nat) : edgG xs ys (i, k, 3) = (xs.getD i 0, ys.getD (k + 1) 0, xs.getD i 0, ys.getD k 0, 3) := rfl
theorem inc_iff {xs : List Int} (h : xs.Pairwise (· < ·)) {i : Nat} (hi : i + 1 < xs.length) {x : Int} : InC xs i x ↔ xs.getD i 0 ≤ x ∧ x < xs.getD (i + 1) 0 := by
  obtain ⟨_, h1, h2, _⟩ := corner_in h hi
  constructor
  · rintro ⟨a, a', k1, k2, k3, k4⟩
    rw [h1] at k1; injection k1 with k1
    rw [h2] at k2; injection k2 with k2
    omega
  · rintro ⟨k1, k2⟩; exact ⟨_, _, h1, h2, k1, k2⟩
theorem inc_next {xs : List Int} (h : xs.Pairwise (· < ·)) {i j : Nat} {x : Int} (h1 : InC xs i x) (h2 : InC xs j (x + 1)) : j = i ∨ j = i + 1 ∧ xs.getD (i + 1) 0 = x + 1 := by
  have hi := h1.lt
  have hj := h2.lt
  rw [inc_iff h hi] at h1
  rw [inc_iff h hj] at h2
  obtain ⟨_, i1, i2, i3⟩ := corner_in h hi
  obtain ⟨_, j1, j2, j3⟩ := corner_in h hj
  have q1 := (srt_lt h i1 j2).2 (by omega)
  have q2 := (srt_lt h j1 i2)
  by_cases e : j < i + 1
  · left; omega
  · right
    have : ¬ xs.getD j 0 < xs.getD (i + 1) 0 := fun q => e (q2.2 q)
    have e2 : xs.getD (i + 1) 0 = x + 1 := by omega
    refine ⟨?_, e2⟩
    rcases Nat.lt_or_ge (i + 1) j with q | q
    · have := (srt_lt h i2 j1).1 q; omega
    · omega
/-- pixels above one another lie in one cell, or in cells above one another -/
theorem inc_prev {xs : List Int} (h : xs.Pairwise (· < ·)) {i j : Nat} {x : Int} (h1 : InC xs i x) (h2 : InC xs j (x - 1)) : j = i ∨ j + 1 = i ∧ xs.getD i 0 = x := by
  have := inc_next h (x := x - 1) h2 (by rw [Int.sub_add_cancel]; exact h1)
  rcases this with e | ⟨e1, e2⟩
  · exact .inl e.symm
  · rw [← e1] at e2; exact .inr ⟨e1.symm, by omega⟩
section
variable {S : Pix} {xs ys : List Int}
theorem Grid.up (h : Grid S xs ys) {i k : Nat} {x : Int} (hx : InC xs i x) (hk : k + 1 < ys.length) : inG S xs ys i ((k : Int) - 1) = S x (ys.getD k 0 - 1) := by
  obtain ⟨c0, c1, c2, c3⟩ := corner_in h.sy hk
  cases hS : S x (ys.getD k 0 - 1) with
  | true =>
    obtain ⟨k', hk'⟩ := h.iny _ _ hS
    rcases inc_prev h.sy c0 hk' with e | ⟨e, _⟩
    · subst e; rw [inc_iff h.sy hk] at hk'; omega
    · have := h.pix hx hk'
      rw [show (k : Int) - 1 = (k' : Int) by omega, this, hS]
  | false =>
    rw [Bool.eq_false_iff]
    intro hi
    obtain ⟨i', k', e1, e2, q1, q2, _, _, _, _, _⟩ := h.inG_iff.1 hi
    have e1 : i = i' := by omega
    have e2 : k = k' + 1 := by omega
    subst e1; subst e2
    obtain ⟨d0, d1, d2, d3⟩ := corner_in h.sy q2
    have hp := h.pix hx ((inc_iff h.sy q2).2 ⟨show ys.getD k' 0 ≤ ys.getD (k' + 1) 0 - 1 by omega, by omega⟩)
    rw [show ((k' + 1 : Nat) : Int) - 1 = (k' : Int) by omega] at hi
    rw [hp, hS] at hi
    cases hi
theorem Grid.down (h : Grid S xs ys) {i k : Nat} {x : Int} (hx : InC xs i x) (hk : k + 1 < ys.length) : inG S xs ys i ((k : Int) + 1) = S x (ys.getD (k + 1) 0) := by
  obtain ⟨c0, c1, c2, c3⟩ := corner_in h.sy hk
  have hlast : InC ys k (ys.getD (k + 1) 0 - 1) := (inc_iff h.sy hk).2 ⟨by omega, by omega⟩
  cases hS : S x (ys.getD (k + 1) 0) with
  | true =>
    obtain ⟨k', hk'⟩ := h.iny _ _ hS
    rcases inc_next h.sy hlast (by rw [Int.sub_add_cancel]; exact hk') with e | ⟨e, _⟩
    · subst e; rw [inc_iff h.sy hk] at hk'; omega
    · have := h.pix hx hk'
      rw [show (k : Int) + 1 = (k' : Int) by omega, this, hS]
  | false =>
    rw [Bool.eq_false_iff]
    intro hi
    obtain ⟨i', k', e1, e2, q1, q2, _, _, _, _, _⟩ := h.inG_iff.1 hi
    have e1 : i = i' := by omega
    have e2 : k' = k + 1 := by omega
    subst e1; subst e2
    have hp := h.pix hx (corner_in h.sy q2).1
    rw [show (k : Int) + 1 = ((k + 1 : Nat) : Int) by omega, hp, hS] at hi
    cases hi
theorem Grid.left (h : Grid S xs ys) {i k : Nat} {y : Int} (hy : InC ys k y) (hi : i + 1 < xs.length) : inG S xs ys ((i : Int) - 1) k = S (xs.getD i 0 - 1) y := by
  obtain ⟨c0, c1, c2, c3⟩ := corner_in h.sx hi
  cases hS : S (xs.getD i 0 - 1) y with
  | true =>
    obtain ⟨i', hi'⟩ := h.inx _ _ hS
    rcases inc_prev h.sx c0 hi' with e | ⟨e, _⟩
    · subst e; rw [inc_iff h.sx hi] at hi'; omega
    · have := h.pix hi' hy
      rw [show (i : Int) - 1 = (i' : Int) by omega, this, hS]
  | false =>
    rw [Bool.eq_false_iff]
    intro hG
    obtain ⟨i', k', e1, e2, q1, q2, _, _, _, _, _⟩ := h.inG_iff.1 hG
    have e1 : i = i' + 1 := by omega
    have e2 : k = k' := by omega
    subst e1; subst e2
    obtain ⟨d0, d1, d2, d3⟩ := corner_in h.sx q1
    have hp := h.pix ((inc_iff h.sx q1).2 ⟨show xs.getD i' 0 ≤ xs.getD (i' + 1) 0 - 1 by omega, by omega⟩) hy
    rw [show ((i' + 1 : Nat) : Int) - 1 = (i' : Int) by omega] at hG
    rw [hp, hS] at hG
    cases hG
theorem Grid.right (h : Grid S xs ys) {i k : Nat} {y : Int} (hy : InC ys k y) (hi : i + 1 < xs.length) : inG S xs ys ((i : Int) + 1) k = S (xs.getD (i + 1) 0) y := by
  obtain ⟨c0, c1, c2, c3⟩ := corner_in h.sx hi
  have hlast : InC xs i (xs.getD (i + 1) 0 - 1) := (inc_iff h.sx hi).2 ⟨by omega, by omega⟩
  cases hS : S (xs.getD (i + 1) 0) y with
  | true =>
    obtain ⟨i', hi'⟩ := h.inx _ _ hS
    rcases inc_next h.sx hlast (by rw [Int.sub_add_cancel]; exact hi') with e | ⟨e, _⟩
    · subst e; rw [inc_iff h.sx hi] at hi'; omega
    · have := h.pix hi' hy
      rw [show (i : Int) + 1 = (i' : Int) by omega, this, hS]
  | false =>
    rw [Bool.eq_false_iff]
    intro hG
    obtain ⟨i', k', e1, e2, q1, q2, _, _, _, _, _⟩ := h.inG_iff.1 hG
    have e1 : i' = i + 1 := by omega
    have e2 : k = k' := by omega
    subst e1; subst e2
    have hp := h.pix (corner_in h.sx q1).1 hy
    rw [show (i : Int) + 1 = ((i + 1 : Nat) : Int) by omega, hp, hS] at hG
    cases hG
/-- what a piece of the grid covers -/
theorem cov_grid (h : Grid S xs ys) {g : GE} (hg : g ∈ boundG S xs ys) (d : Nat) (x y : Int) : covE (edgG xs ys g) d x y ↔ g.2.2 = d ∧ InC xs g.1 (ownX d x) ∧ InC ys g.2.1 (ownY d y) ∧
    (d = 0 ∧ y = ys.getD g.2.1 0 ∨ d = 1 ∧ x = xs.getD (g.1 + 1) 0 ∨ d = 2 ∧ y = ys.getD (g.2.1 + 1) 0 ∨ d = 3 ∧ x = xs.getD g.1 0) := by
  obtain ⟨i, k, e⟩ := g
  obtain ⟨h1, h2, h3, h4, h5⟩ := mem_boundG.1 hg
  dsimp only at h1 h2 h3 h4 h5 ⊢
  rw [inc_iff h.sx h1, inc_iff h.sy h2]
  have c3 := (corner_in h.sx h1).2.2.2
  have d3 := (corner_in h.sy h2).2.2.2
  rcases (show e = 0 ∨ e = 1 ∨ e = 2 ∨ e = 3 by omega) with rfl | rfl | rfl | rfl
  · rw [edgG0]
    generalize xs.getD i 0 = a at *
    generalize xs.getD (i + 1) 0 = a' at *
    generalize ys.getD k 0 = b at *
    generalize ys.getD (k + 1) 0 = b' at *
    unfold covE
    dsimp only
    constructor
    · rintro ⟨e1, e2⟩
      subst e1
      refine ⟨rfl, ?_⟩
      unfold ownX ownY
      simp at e2 ⊢
      omega
    · rintro ⟨e1, e2⟩
      subst e1
      refine ⟨rfl, ?_⟩
      unfold ownX ownY at e2
      simp at e2 ⊢
      omega
  · rw [edgG1]
    generalize xs.getD i 0 = a at *
    generalize xs.getD (i + 1) 0 = a' at *
    generalize ys.getD k 0 = b at *
    generalize ys.getD (k + 1) 0 = b' at *
    unfold covE
    dsimp only
    constructor
    · rintro ⟨e1, e2⟩
      subst e1
      refine ⟨rfl, ?_⟩
      unfold ownX ownY
      simp at e2 ⊢
      omega
    · rintro ⟨e1, e2⟩
      subst e1
      refine ⟨rfl, ?_⟩
      unfold ownX ownY at e2
      simp at e2 ⊢
      omega
  · rw [edgG2]
    generalize xs.getD i 0 = a at *
    generalize xs.getD (i + 1) 0 = a' at *
    generalize ys.getD k 0 = b at *
    generalize ys.getD (k + 1) 0 = b' at *
    unfold covE
    dsimp only
    constructor
    · rintro ⟨e1, e2⟩
      subst e1
      refine ⟨rfl, ?_⟩
      unfold ownX ownY
      simp at e2 ⊢
      omega
    · rintro ⟨e1, e2⟩
      subst e1
      refine ⟨rfl, ?_⟩
      unfold ownX ownY at e2
      simp at e2 ⊢
      omega
  · rw [edgG3]
    generalize xs.getD i 0 = a at *
    generalize xs.getD (i + 1) 0 = a' at *
    generalize ys.getD k 0 = b at *
    generalize ys.getD (k + 1) 0 = b' at *
    unfold covE
    dsimp only
    constructor
    · rintro ⟨e1, e2⟩
      subst e1
      refine ⟨rfl, ?_⟩
      unfold ownX ownY
      simp at e2 ⊢
      omega
    · rintro ⟨e1, e2⟩
      subst e1
      refine ⟨rfl, ?_⟩
      unfold ownX ownY at e2
      simp at e2 ⊢
      omega
theorem grid_sys (h : Grid S xs ys) : EdgeSys S ((boundG S xs ys).map (edgG xs ys)) := by
  have at_ : ∀ {j : Nat} {e : Edg}, ((boundG S xs ys).map (edgG xs ys))[j]? = some e → ∃ g, (boundG S xs ys)[j]? = some g ∧ e = edgG xs ys g ∧ g ∈ boundG S xs ys := fun {j e} he => by
    rw [List.getElem?_map] at he
    cases hq : (boundG S xs ys)[j]? with
    | none => rw [hq] at he; cases he
    | some g => rw [hq] at he; injection he with he; exact ⟨g, rfl, he.symm, List.mem_of_getElem? hq⟩
  refine ⟨fun e he => ?_, fun e he d x y hc => ?_, fun d x y hd ho => ?_, fun i j e f d x y hi hj he hf => ?_⟩
  · obtain ⟨g, hg, rfl⟩ := List.mem_map.1 he
    obtain ⟨h1, h2, h3, h4, h5⟩ := mem_boundG.1 hg
    have c3 := (corner_in h.sx h1).2.2.2
    have d3 := (corner_in h.sy h2).2.2.2
    obtain ⟨i, k, d⟩ := g
    dsimp only at h1 h2 h3 h4 h5 c3 d3
    rcases (show d = 0 ∨ d = 1 ∨ d = 2 ∨ d = 3 by omega) with rfl | rfl | rfl | rfl
    · rw [edgG0]; exact .inl ⟨rfl, rfl, c3⟩
    · rw [edgG1]; exact .inr (.inl ⟨rfl, rfl, d3⟩)
    · rw [edgG2]; exact .inr (.inr (.inl ⟨rfl, rfl, c3⟩))
    · rw [edgG3]; exact .inr (.inr (.inr ⟨rfl, rfl, d3⟩))
  · obtain ⟨g, hg, rfl⟩ := List.mem_map.1 he
    obtain ⟨e1, hx, hy, hsd⟩ := (cov_grid h hg d x y).1 hc
    obtain ⟨h1, h2, h3, h4, h5⟩ := mem_boundG.1 hg
    obtain ⟨i, k, e⟩ := g
    dsimp only at e1 hx hy hsd h1 h2 h3 h4 h5
    subst e1
    obtain ⟨o0, o1, o2, o3⟩ := outB_iff (S := S) (x := x) (y := y)
    have hown := h.pix hx hy
    rw [h3] at hown
    rcases (show e = 0 ∨ e = 1 ∨ e = 2 ∨ e = 3 by omega) with rfl | rfl | rfl | rfl
    · have hyy : y = ys.getD k 0 := by omega
      have := h.up (k := k) hx h2
      replace h5 : inG S xs ys (i : Int) ((k : Int) - 1) = false := h5
      rw [this] at h5
      exact o0.2 ⟨hown.symm, by rw [hyy]; exact h5⟩
    · have hxx : x = xs.getD (i + 1) 0 := by omega
      have := h.right (i := i) hy h1
      replace h5 : inG S xs ys ((i : Int) + 1) (k : Int) = false := h5
      rw [this] at h5
      exact o1.2 ⟨hown.symm, by rw [hxx]; exact h5⟩
    · have hyy : y = ys.getD (k + 1) 0 := by omega
      have := h.down (k := k) hx h2
      replace h5 : inG S xs ys (i : Int) ((k : Int) + 1) = false := h5
      rw [this] at h5
      exact o2.2 ⟨hown.symm, by rw [hyy]; exact h5⟩
    · have hxx : x = xs.getD i 0 := by omega
      have := h.left (i := i) hy h1
      replace h5 : inG S xs ys ((i : Int) - 1) (k : Int) = false := h5
      rw [this] at h5
      exact o3.2 ⟨hown.symm, by rw [hxx]; exact h5⟩
  · have fin : ∀ g : GE, g ∈ boundG S xs ys → covE (edgG xs ys g) d x y → ∃ (i : Nat) (e : Edg), ((boundG S xs ys).map (edgG xs ys))[i]? = some e ∧ covE e d x y := fun g hg hc => by
      obtain ⟨j, hj⟩ := List.mem_iff_getElem?.1 hg
      exact ⟨j, _, by rw [List.getElem?_map, hj]; rfl, hc⟩
    obtain ⟨o0, o1, o2, o3⟩ := outB_iff (S := S) (x := x) (y := y)
    rcases (show d = 0 ∨ d = 1 ∨ d = 2 ∨ d = 3 by omega) with rfl | rfl | rfl | rfl
    · obtain ⟨k1, k2⟩ := o0.1 ho
      obtain ⟨i, hi⟩ := h.inx _ _ k1
      obtain ⟨k, hk⟩ := h.iny _ _ k1
      have hyy : y = ys.getD k 0 := by
        have hk' := hk
        rw [inc_iff h.sy hk.lt] at hk'
        by_cases e : y - 1 < ys.getD k 0
        · omega
        · have := h.cell i k x y x (y - 1) hi hi hk ((inc_iff h.sy hk.lt).2 ⟨by omega, by omega⟩)
          rw [k1, k2] at this; cases this
      have hup := h.up (k := k) hi hk.lt
      rw [← hyy, k2] at hup
      have hm : ((i, k, 0) : GE) ∈ boundG S xs ys := mem_boundG.2 ⟨hi.lt, hk.lt, by rw [h.pix hi hk]; exact k1, by dsimp only; omega, hup⟩
      exact fin _ hm ((cov_grid h hm 0 x y).2 ⟨rfl, hi, hk, .inl ⟨rfl, hyy⟩⟩)
    · obtain ⟨k1, k2⟩ := o1.1 ho
      obtain ⟨i, hi⟩ := h.inx _ _ k1
      obtain ⟨k, hk⟩ := h.iny _ _ k1
      have hxx : x = xs.getD (i + 1) 0 := by
        have hi' := hi
        rw [inc_iff h.sx hi.lt] at hi'
        by_cases e : x < xs.getD (i + 1) 0
        · have := h.cell i k (x - 1) y x y hi ((inc_iff h.sx hi.lt).2 ⟨by omega, e⟩) hk hk
          rw [k1, k2] at this; cases this
        · omega
      have hup := h.right (i := i) hk hi.lt
      rw [← hxx, k2] at hup
      have hm : ((i, k, 1) : GE) ∈ boundG S xs ys := mem_boundG.2 ⟨hi.lt, hk.lt, by rw [h.pix hi hk]; exact k1, by dsimp only; omega, hup⟩
      exact fin _ hm ((cov_grid h hm 1 x y).2 ⟨rfl, hi, hk, .inr (.inl ⟨rfl, hxx⟩)⟩)
    · obtain ⟨k1, k2⟩ := o2.1 ho
      obtain ⟨i, hi⟩ := h.inx _ _ k1
      obtain ⟨k, hk⟩ := h.iny _ _ k1
      have hyy : y = ys.getD (k + 1) 0 := by
        have hk' := hk
        rw [inc_iff h.sy hk.lt] at hk'
        by_cases e : y < ys.getD (k + 1) 0
        · have := h.cell i k (x - 1) (y - 1) (x - 1) y hi hi hk ((inc_iff h.sy hk.lt).2 ⟨by omega, e⟩)
          rw [k1, k2] at this; cases this
        · omega
      have hup := h.down (k := k) hi hk.lt
      rw [← hyy, k2] at hup
      have hm : ((i, k, 2) : GE) ∈ boundG S xs ys := mem_boundG.2 ⟨hi.lt, hk.lt, by rw [h.pix hi hk]; exact k1, by dsimp only; omega, hup⟩
      exact fin _ hm ((cov_grid h hm 2 x y).2 ⟨rfl, hi, hk, .inr (.inr (.inl ⟨rfl, hyy⟩))⟩)
    · obtain ⟨k1, k2⟩ := o3.1 ho
      obtain ⟨i, hi⟩ := h.inx _ _ k1
      obtain ⟨k, hk⟩ := h.iny _ _ k1
      have hxx : x = xs.getD i 0 := by
        have hi' := hi
        rw [inc_iff h.sx hi.lt] at hi'
        by_cases e : x - 1 < xs.getD i 0
        · omega
        · have := h.cell i k x (y - 1) (x - 1) (y - 1) hi ((inc_iff h.sx hi.lt).2 ⟨by omega, by omega⟩) hk hk
          rw [k1, k2] at this; cases this
      have hup := h.left (i := i) hk hi.lt
      rw [← hxx, k2] at hup
      have hm : ((i, k, 3) : GE) ∈ boundG S xs ys := mem_boundG.2 ⟨hi.lt, hk.lt, by rw [h.pix hi hk]; exact k1, by dsimp only; omega, hup⟩
      exact fin _ hm ((cov_grid h hm 3 x y).2 ⟨rfl, hi, hk, .inr (.inr (.inr ⟨rfl, hxx⟩))⟩)
  · obtain ⟨g, g1, rfl, g2⟩ := at_ hi
    obtain ⟨g', g1', rfl, g2'⟩ := at_ hj
    obtain ⟨e1, hx, hy, _⟩ := (cov_grid h g2 d x y).1 he
    obtain ⟨e1', hx', hy', _⟩ := (cov_grid h g2' d x y).1 hf
    have q1 := hx.uniq h.sx hx'
    have q2 := hy.uniq h.sy hy'
    have : g = g' := by
      obtain ⟨a, b, c⟩ := g
      obtain ⟨a', b', c'⟩ := g'
      dsimp only at q1 q2 e1 e1'
      rw [q1, q2, e1, e1']
    subst this
    obtain ⟨m1, m2⟩ := List.getElem?_eq_some_iff.1 g1
    obtain ⟨m3, m4⟩ := List.getElem?_eq_some_iff.1 g1'
    exact (List.getElem_inj (h₀ := m1) (h₁ := m3) (bound_nodup S xs ys)).1 (m2.trans m4.symm)
end
end Go.Reg

/- Outlines of the reference: corners by points, the edge that follows, rings put in order. Plain law: no walk stands here. -/
set_option linter.unusedVariables false
set_option linter.unusedSimpArgs false
namespace Go.Reg
open Go.Proofs.YtkjpcjmbhpfelaaGreat Go.Par

/-- each piece of a cycle links to the next one -/
theorem cyc_link {S : Pix} {E : List Edg} (h : EdgeSys S E) {q : List Nat} {c : List Edg} (hc : Cyc (NextE S E) q) (he : EdgesAt E q c) {k : Nat} {e f : Edg} (h1 : c[k]? = some e) (h2 : c[(k + 1) % c.length]? = some f) : linkE S e f ∧ shapeE e ∧ unitE S e ∧ shapeE f := by
  have hk := (List.getElem?_eq_some_iff.1 h1).1
  have hpos : 0 < c.length := by omega
  obtain ⟨i, i1, i2⟩ := he.back h1
  obtain ⟨j, j1, j2⟩ := he.back h2
  have hN : NextE S E i j := by
    by_cases hl : k + 1 < c.length
    · rw [Nat.mod_eq_of_lt hl] at j1
      exact hc.2.1 k i j i1 j1
    · have hkn : k + 1 = c.length := by omega
      rw [hkn, Nat.mod_self] at j1
      refine hc.2.2 i j ?_ ?_
      · rw [List.getLast?_eq_getElem?, ← he.1, ← hkn, Nat.add_sub_cancel]; exact i1
      · rw [List.head?_eq_getElem?]; exact j1
  obtain ⟨e', f', a1, a2, a3, a4, a5⟩ := hN
  rw [i2] at a1; injection a1 with a1; subst a1
  rw [j2] at a2; injection a2 with a2; subst a2
  have hm := List.mem_of_getElem? i2
  exact ⟨⟨a3, a4, a5⟩, h.shape e hm, h.unit e hm, h.shape f (List.mem_of_getElem? j2)⟩
/-- a corner is where the way turns: told by the points alone -/
theorem corner_pts {S : Pix} {E : List Edg} (h : EdgeSys S E) {q : List Nat} {c : List Edg} (hc : Cyc (NextE S E) q) (he : EdgesAt E q c) {k : Nat} {a e b : Edg} (hk : k < c.length) (ha : c[(k + c.length - 1) % c.length]? = some a) (h1 : c[k]? = some e) (hb : c[(k + 1) % c.length]? = some b) :
    ((decide (a.1 = e.1) != decide (b.1 = e.1)) = true) ↔ a.2.2.2.2 ≠ e.2.2.2.2 := by
  have hpos : 0 < c.length := by omega
  have hae : c[((k + c.length - 1) % c.length + 1) % c.length]? = some e := by
    rw [Nat.mod_add_mod, show k + c.length - 1 + 1 = k + c.length by omega, Nat.add_mod_right, Nat.mod_eq_of_lt hk]; exact h1
  obtain ⟨⟨l1, l2, l3⟩, s1, u1, s2⟩ := cyc_link h hc he ha hae
  obtain ⟨⟨m1, m2, m3⟩, t1, w1, t2⟩ := cyc_link h hc he h1 hb
  obtain ⟨_, g2, g3⟩ := turnQ_out _ _ _ _ _ (shape_dir s1) (in_to s1 u1)
  rw [show turnQ _ _ _ _ _ = turnS S a.2.2.2.2 a.2.2.1 a.2.2.2.1 from rfl, ← l3] at g2
  have d1 := shape_dir s1
  have d2 := shape_dir t1
  have p1 : a.1 = e.1 ↔ a.2.2.2.2 % 2 = 1 := by unfold shapeE at s1; omega
  have p2 : b.1 = e.1 ↔ e.2.2.2.2 % 2 = 1 := by unfold shapeE at t1; omega
  by_cases q1 : a.1 = e.1
  · by_cases q2 : b.1 = e.1
    · simp [q1, q2]
      have := p1.1 q1; have := p2.1 q2; omega
    · simp [q1, q2]
      have := p1.1 q1; omega
  · by_cases q2 : b.1 = e.1
    · simp [q1, q2]
      have := p2.1 q2; omega
    · simp [q1, q2]
      omega
theorem corn_step {c : List Edg} {k : Nat} {a e : Edg} (hk : k < c.length) (ha : c[(k + c.length - 1) % c.length]? = some a) (h1 : c[k]? = some e) :
    corn (lastD c) (c.take (k + 1)) = corn (lastD c) (c.take k) ++ (if a.2.2.2.2 = e.2.2.2.2 then [] else [startC e]) := by
  rw [take_snocG h1, corn_snoc, dirL_prev hk ha]
/-! the first of the least ones -/
theorem LeastAt.step {K : List Crn} {t k : Nat} {f q : Crn} (h : LeastAt (K.take k) t) (hf : K[t]? = some f) (hq : K[k]? = some q) (htk : t < k) (hn : ¬ aheadP q f) : LeastAt (K.take (k + 1)) t := by
  rw [take_snocG hq]
  exact h.more (by rw [List.getElem?_take_of_lt htk]; exact hf) hn
theorem LeastAt.move {K : List Crn} {t k : Nat} {f q : Crn} (h : LeastAt (K.take k) t) (hf : K[t]? = some f) (hq : K[k]? = some q) (htk : t < k) (hn : aheadP q f) : LeastAt (K.take (k + 1)) k := by
  have hl := (List.getElem?_eq_some_iff.1 hq).1
  have := h.now (q := q) (by rw [List.getElem?_take_of_lt htk]; exact hf) hn
  rw [take_snocG hq]
  rw [List.length_take, Nat.min_eq_left (by omega)] at this
  exact this
/-! a ring put among rings -/
instance (p q : Crn) : Decidable (aheadP p q) := by unfold aheadP; infer_instance
section
variable {τ : Type} (key : τ → Crn)
def insS (r : τ) : List τ → List τ
  | [] => [r]
  | a :: l => if aheadP (key r) (key a) then r :: a :: l else a :: insS r l
theorem insS_perm (r : τ) : ∀ l : List τ, (insS key r l).Perm (r :: l) := by
  intro l
  induction l with
  | nil => exact List.Perm.refl _
  | cons a l ih =>
    unfold insS
    split
    · exact List.Perm.refl _
    · exact (ih.cons a).trans (List.Perm.swap r a l)
theorem insS_sorted (r : τ) : ∀ l : List τ, l.Pairwise (fun a b => ¬ aheadP (key b) (key a)) → (insS key r l).Pairwise (fun a b => ¬ aheadP (key b) (key a)) := by
  intro l
  induction l with
  | nil => intro _; simp [insS]
  | cons a l ih =>
    intro h
    obtain ⟨h1, h2⟩ := List.pairwise_cons.1 h
    unfold insS
    split
    · rename_i hk
      refine List.pairwise_cons.2 ⟨fun b hb => ?_, h⟩
      rcases List.mem_cons.1 hb with rfl | hb
      · unfold aheadP at *; omega
      · have := h1 b hb; unfold aheadP at *; omega
    · rename_i hk
      refine List.pairwise_cons.2 ⟨fun b hb => ?_, ih h2⟩
      rcases List.mem_cons.1 ((insS_perm key r l).subset hb) with rfl | hb
      · exact hk
      · exact h1 b hb
theorem insS_skip (r : τ) : ∀ (l : List τ) (k : Nat) (a : τ), (∀ (j : Nat) (b : τ), j < k → l[j]? = some b → ¬ aheadP (key r) (key b)) → l[k]? = some a → aheadP (key r) (key a) → insS key r l = l.take k ++ r :: l.drop k := by
  intro l
  induction l with
  | nil => intro k a _ h; simp at h
  | cons c l ih =>
    intro k a hn hk ha
    cases k with
    | zero =>
      simp at hk
      subst hk
      unfold insS
      rw [if_pos ha]
      rfl
    | succ k =>
      unfold insS
      rw [if_neg (hn 0 c (by omega) rfl)]
      rw [ih k a (fun j b hj hb => hn (j + 1) b (by omega) (by simpa using hb)) (by simpa using hk) ha]
      rfl
theorem insS_end (r : τ) : ∀ (l : List τ), (∀ b ∈ l, ¬ aheadP (key r) (key b)) → insS key r l = l ++ [r] := by
  intro l
  induction l with
  | nil => intro _; rfl
  | cons c l ih =>
    intro h
    unfold insS
    rw [if_neg (h c List.mem_cons_self), ih fun b hb => h b (List.mem_cons_of_mem _ hb)]
    rfl
end
/-! the edge that follows, in the grid -/
theorem toG_next (g : GE) (hd : g.2.2 < 4) : toG g = frG (g.1, g.2.1, (g.2.2 + 1) % 4) := by
  obtain ⟨i, k, d⟩ := g
  dsimp only at hd
  rcases (show d = 0 ∨ d = 1 ∨ d = 2 ∨ d = 3 by omega) with rfl | rfl | rfl | rfl <;> simp [toG, frG]
/-- two pieces that begin at one corner: the one of the same cell turns clockwise, and no other does -/
theorem same_cell {g h : GE} (hg : g.2.2 < 4) (hh : h.2.2 < 4) (hf : frG h = toG g) : (h.1 = g.1 ∧ h.2.1 = g.2.1) ↔ h.2.2 = (g.2.2 + 1) % 4 := by
  rw [toG_next g hg] at hf
  obtain ⟨i, k, d⟩ := g
  obtain ⟨i', k', d'⟩ := h
  dsimp only at hg hh hf ⊢
  constructor
  · rintro ⟨rfl, rfl⟩
    rcases (show d = 0 ∨ d = 1 ∨ d = 2 ∨ d = 3 by omega) with rfl | rfl | rfl | rfl <;>
    rcases (show d' = 0 ∨ d' = 1 ∨ d' = 2 ∨ d' = 3 by omega) with rfl | rfl | rfl | rfl <;>
    simp [frG] at hf ⊢
  · rintro rfl
    rcases (show d = 0 ∨ d = 1 ∨ d = 2 ∨ d = 3 by omega) with rfl | rfl | rfl | rfl <;>
    simp [frG] at hf <;> exact hf
end Go.Reg
