/- Rectangles as sets of pixels: regions, cuts, areas, bounds, selections. Plain law: no walk stands here. -/
import Derived.Test.YtkjpcjmbhpfelaaGreatRgInter
set_option linter.unusedVariables false
set_option linter.unusedSimpArgs false
namespace Go.Reg
open Go.Proofs.YtkjpcjmbhpfelaaGreat

/-! ## rectangles -/
theorem empty_false {r : R4} (h : rectEmptyS r = false) : -4096 ≤ r.1 ∧ r.2.2.1 ≤ 4096 ∧ -4096 ≤ r.2.1 ∧ r.2.2.2 ≤ 4096 ∧ r.1 < r.2.2.1 ∧ r.2.1 < r.2.2.2 := by
  simp only [rectEmptyS, rectValidS, inR, Bool.or_eq_false_iff, Bool.not_eq_false', Bool.and_eq_true, decide_eq_true_eq, decide_eq_false_iff_not] at h
  omega
theorem empty_mk {r : R4} (h0 : -4096 ≤ r.1) (h1 : r.1 < r.2.2.1) (h2 : r.2.2.1 ≤ 4096) (h3 : -4096 ≤ r.2.1) (h4 : r.2.1 < r.2.2.2) (h5 : r.2.2.2 ≤ 4096) : rectEmptyS r = false := by
  simp only [rectEmptyS, rectValidS, inR, Bool.or_eq_false_iff, Bool.not_eq_false', Bool.and_eq_true, decide_eq_true_eq, decide_eq_false_iff_not]
  omega
theorem hasR_iff {r : R4} {x y : Int} : hasR r x y = true ↔ rectEmptyS r = false ∧ r.1 ≤ x ∧ x < r.2.2.1 ∧ r.2.1 ≤ y ∧ y < r.2.2.2 := by
  simp only [hasR, Bool.and_eq_true, Bool.not_eq_true', decide_eq_true_eq]
  constructor
  · rintro ⟨⟨⟨⟨h1, h2⟩, h3⟩, h4⟩, h5⟩; exact ⟨h1, h2, h3, h4, h5⟩
  · rintro ⟨h1, h2, h3, h4, h5⟩; exact ⟨⟨⟨⟨h1, h2⟩, h3⟩, h4⟩, h5⟩
def inL (l : List R4) (x y : Int) : Bool := l.any fun r => hasR r x y
theorem inL_iff {l : List R4} {x y : Int} : inL l x y = true ↔ ∃ r ∈ l, hasR r x y = true := by simp [inL, List.any_eq_true]
theorem inL_win (l : List R4) : InWin (inL l) := fun x y h => by
  obtain ⟨r, _, h⟩ := inL_iff.1 h
  obtain ⟨h0, h1, h2, h3, h4⟩ := hasR_iff.1 h
  have := empty_false h0
  omega
theorem inL_rects {B : List Band} (h : OKB B) (hw : InWin (inB B)) (x y : Int) : inL (rectsB B) x y = inB B x y := by
  have hb := h.win hw
  rw [Bool.eq_iff_iff, inL_iff]
  constructor
  · rintro ⟨r, hr, hh⟩
    obtain ⟨b, hbm, hr⟩ := List.mem_flatMap.1 hr
    obtain ⟨q, hq, rfl⟩ := List.mem_map.1 hr
    obtain ⟨_, h1, h2, h3, h4⟩ := hasR_iff.1 hh
    exact h.runsIn hbm hq h1 h2 h3 h4
  · intro hi
    unfold inB at hi
    rcases atP_mem (d := []) (P := B) (y := y) with e | ⟨p, hp, k1, k2, e⟩
    · rw [e] at hi; cases hi
    · rw [e] at hi
      obtain ⟨r, hr, k3, k4⟩ := inRuns_mem.1 hi
      obtain ⟨k5, k6⟩ := hb p hp
      have k7 := k6 r hr
      refine ⟨_, List.mem_flatMap.2 ⟨p, hp, List.mem_map.2 ⟨r, hr, rfl⟩⟩, hasR_iff.2 ⟨empty_mk ?_ ?_ ?_ ?_ ?_ ?_, k3, k4, k1, k2⟩⟩ <;> dsimp only <;> omega
theorem RegionOf.has {S : Int → Int → Bool} {L : List R4} (h : RegionOf S L) (hw : InWin S) (x y : Int) : inL L x y = S x y := by
  obtain ⟨B, h1, h2, rfl⟩ := h
  have e : inB B = S := funext fun x => funext fun y => h2 x y
  rw [inL_rects h1 (by rw [e]; exact hw), h2]
/-- a region is what it is made of -/
theorem RegionOf.self {S : Int → Int → Bool} {L : List R4} (h : RegionOf S L) (hw : InWin S) : RegionOf (inL L) L := by
  obtain ⟨B, h1, h2, e⟩ := h
  exact ⟨B, h1, fun x y => (h2 x y).trans (RegionOf.has ⟨B, h1, h2, e⟩ hw x y).symm, e⟩
def sumArea (l : List R4) : Int := sumL (l.map areaR)
theorem sumL_map_mul (c : Int) : ∀ l : List Int, sumL (l.map fun x => x * c) = sumL l * c
  | [] => by simp [sumL]
  | x :: l => by rw [List.map_cons, sumL, sumL, sumL_map_mul c l, Int.add_mul]
theorem areaR_ok {r : R4} (h : rectEmptyS r = false) : areaR r = (r.2.2.1 - r.1) * (r.2.2.2 - r.2.1) := by
  unfold areaR rectCanonS; rw [h]; rfl
theorem OKB.sumArea {B : List Band} (h : OKB B) (hw : InWin (inB B)) : sumArea (rectsB B) = pixCount (inB B) := by
  rw [← h.area hw]
  have hb := h.win hw
  clear hw h
  unfold Go.Reg.sumArea rectsB areaB
  induction B with
  | nil => rfl
  | cons b B ih =>
    rw [List.flatMap_cons, List.map_append, sumL_append, List.map_cons, sumL, ih fun c hc => hb c (List.mem_cons_of_mem _ hc)]
    congr 1
    obtain ⟨k1, k2⟩ := hb b List.mem_cons_self
    rw [List.map_map]
    unfold widthR
    rw [Int.mul_comm, ← sumL_map_mul, List.map_map]
    congr 1
    refine List.map_congr_left fun r hr => ?_
    have := k2 r hr
    show areaR (r.1, b.1, r.2, b.2.1) = (r.2 - r.1) * (b.2.1 - b.1)
    rw [areaR_ok (empty_mk (by dsimp only; omega) (by dsimp only; omega) (by dsimp only; omega) (by dsimp only; omega) (by dsimp only; omega) (by dsimp only; omega))]
theorem RegionOf.area {S : Int → Int → Bool} {L : List R4} (h : RegionOf S L) (hw : InWin S) : sumArea L = pixCount S := by
  obtain ⟨B, h1, h2, rfl⟩ := h
  have e : inB B = S := funext fun x => funext fun y => h2 x y
  rw [h1.sumArea (by rw [e]; exact hw), e]

/-! ## the cuts of rows -/
def edgesY (l : List R4) : List Int := l.flatMap fun r => if rectEmptyS r then [] else [r.2.1, r.2.2.2]
def edgesX (l : List R4) : List Int := l.flatMap fun r => if rectEmptyS r then [] else [r.1, r.2.2.1]
theorem edgesY_mem {l : List R4} {r : R4} (h : r ∈ l) (he : rectEmptyS r = false) : r.2.1 ∈ edgesY l ∧ r.2.2.2 ∈ edgesY l :=
  ⟨List.mem_flatMap.2 ⟨r, h, by rw [he]; simp⟩, List.mem_flatMap.2 ⟨r, h, by rw [he]; simp⟩⟩
theorem edgesX_mem {l : List R4} {r : R4} (h : r ∈ l) (he : rectEmptyS r = false) : r.1 ∈ edgesX l ∧ r.2.2.1 ∈ edgesX l :=
  ⟨List.mem_flatMap.2 ⟨r, h, by rw [he]; simp⟩, List.mem_flatMap.2 ⟨r, h, by rw [he]; simp⟩⟩
theorem inL_row {ys : List Int} (hs : ys.Pairwise (· < ·)) {l : List R4} (h : ∀ v ∈ edgesY l, v ∈ ys) {i : Nat} {lo hi : Int} (h1 : ys[i]? = some lo) (h2 : ys[i + 1]? = some hi) {y : Int} (k1 : lo ≤ y) (k2 : y < hi) (x : Int) : inL l x y = inL l x lo := by
  unfold inL
  rw [Bool.eq_iff_iff, List.any_eq_true, List.any_eq_true]
  have key : ∀ r ∈ l, hasR r x y = true ↔ hasR r x lo = true := fun r hr => by
    rw [hasR_iff, hasR_iff]
    constructor
    · rintro ⟨e0, e1, e2, e3, e4⟩
      obtain ⟨m1, m2⟩ := edgesY_mem hr e0
      have := sorted_gap hs h1 h2 (h _ m1)
      have := sorted_gap hs h1 h2 (h _ m2)
      exact ⟨e0, e1, e2, by omega, by omega⟩
    · rintro ⟨e0, e1, e2, e3, e4⟩
      obtain ⟨m1, m2⟩ := edgesY_mem hr e0
      have := sorted_gap hs h1 h2 (h _ m1)
      have := sorted_gap hs h1 h2 (h _ m2)
      exact ⟨e0, e1, e2, by omega, by omega⟩
  constructor
  · rintro ⟨r, hr, hh⟩; exact ⟨r, hr, (key r hr).1 hh⟩
  · rintro ⟨r, hr, hh⟩; exact ⟨r, hr, (key r hr).2 hh⟩
theorem inL_below {ys : List Int} {l : List R4} (h : ∀ v ∈ edgesY l, v ∈ ys) {y : Int} (k : (∀ v ∈ ys, y < v) ∨ ∀ v ∈ ys, v ≤ y) (x : Int) : inL l x y = false := by
  rw [Bool.eq_false_iff]
  intro e
  obtain ⟨r, hr, hh⟩ := inL_iff.1 e
  obtain ⟨e0, e1, e2, e3, e4⟩ := hasR_iff.1 hh
  obtain ⟨m1, m2⟩ := edgesY_mem hr e0
  rcases k with k | k
  · have := k _ (h _ m1); omega
  · have := k _ (h _ m2); omega
/-- the pixels of two rows of rectangles that keep lets by -/
def keepS (keep : Bool → Bool → Bool) (a b : List R4) (x y : Int) : Bool := keep (inL a x y) (inL b x y)
theorem cuts_rows {ys : List Int} (hs : ys.Pairwise (· < ·)) {a b : List R4} {keep : Bool → Bool → Bool} (hk : keep false false = false) (ha : ∀ v ∈ edgesY a, v ∈ ys) (hb : ∀ v ∈ edgesY b, v ∈ ys) : CutsB ys fun y x => keepS keep a b x y := by
  refine ⟨hs, fun i lo hi h1 h2 y k1 k2 => funext fun x => ?_, fun y k => funext fun x => ?_, fun y k => funext fun x => ?_⟩
  · show keep _ _ = keep _ _
    rw [inL_row hs ha h1 h2 k1 k2, inL_row hs hb h1 h2 k1 k2]
  · show keep _ _ = _
    rw [inL_below ha (.inl k), inL_below hb (.inl k), hk]
  · show keep _ _ = _
    rw [inL_below ha (.inr k), inL_below hb (.inr k), hk]
/-- the columns of two rows of runs that keep lets by -/
def keepR (keep : Bool → Bool → Bool) (a b : List Run) (x : Int) : Bool := keep (inRuns a x) (inRuns b x)
def ends (l : List Run) : List Int := l.flatMap fun r => [r.1, r.2]
theorem inRuns_gap {xs : List Int} (hs : xs.Pairwise (· < ·)) {l : List Run} (h : ∀ v ∈ ends l, v ∈ xs) {i : Nat} {lo hi : Int} (h1 : xs[i]? = some lo) (h2 : xs[i + 1]? = some hi) {x : Int} (k1 : lo ≤ x) (k2 : x < hi) : inRuns l x = inRuns l lo := by
  rw [Bool.eq_iff_iff, inRuns_mem, inRuns_mem]
  have key : ∀ r ∈ l, (r.1 ≤ x ∧ x < r.2) ↔ (r.1 ≤ lo ∧ lo < r.2) := fun r hr => by
    have := sorted_gap hs h1 h2 (h r.1 (List.mem_flatMap.2 ⟨r, hr, by simp⟩))
    have := sorted_gap hs h1 h2 (h r.2 (List.mem_flatMap.2 ⟨r, hr, by simp⟩))
    omega
  constructor
  · rintro ⟨r, hr, hh⟩; exact ⟨r, hr, (key r hr).1 hh⟩
  · rintro ⟨r, hr, hh⟩; exact ⟨r, hr, (key r hr).2 hh⟩
theorem inRuns_out {xs : List Int} {l : List Run} (h : ∀ v ∈ ends l, v ∈ xs) {x : Int} (k : (∀ v ∈ xs, x < v) ∨ ∀ v ∈ xs, v ≤ x) : inRuns l x = false := by
  rw [Bool.eq_false_iff]
  intro e
  obtain ⟨r, hr, h1, h2⟩ := inRuns_mem.1 e
  rcases k with k | k
  · have := k _ (h r.1 (List.mem_flatMap.2 ⟨r, hr, by simp⟩)); omega
  · have := k _ (h r.2 (List.mem_flatMap.2 ⟨r, hr, by simp⟩)); omega
theorem cuts_runs {xs : List Int} (hs : xs.Pairwise (· < ·)) {a b : List Run} {keep : Bool → Bool → Bool} (hk : keep false false = false) (ha : ∀ v ∈ ends a, v ∈ xs) (hb : ∀ v ∈ ends b, v ∈ xs) : Cuts xs (keepR keep a b) false := by
  refine ⟨hs, fun i lo hi h1 h2 y k1 k2 => ?_, fun y k => ?_, fun y k => ?_⟩
  · show keep _ _ = keep _ _
    rw [inRuns_gap hs ha h1 h2 k1 k2, inRuns_gap hs hb h1 h2 k1 k2]
  · show keep _ _ = _
    rw [inRuns_out ha (.inl k), inRuns_out hb (.inl k), hk]
  · show keep _ _ = _
    rw [inRuns_out ha (.inr k), inRuns_out hb (.inr k), hk]
/-- the reference: columns of a row over the cuts of all rectangles -/
theorem inL_col {xs : List Int} (hs : xs.Pairwise (· < ·)) {l : List R4} (h : ∀ v ∈ edgesX l, v ∈ xs) {i : Nat} {lo hi : Int} (h1 : xs[i]? = some lo) (h2 : xs[i + 1]? = some hi) {x : Int} (k1 : lo ≤ x) (k2 : x < hi) (y : Int) : inL l x y = inL l lo y := by
  rw [Bool.eq_iff_iff, inL_iff, inL_iff]
  have key : ∀ r ∈ l, hasR r x y = true ↔ hasR r lo y = true := fun r hr => by
    rw [hasR_iff, hasR_iff]
    constructor
    · rintro ⟨e0, e1, e2, e3, e4⟩
      obtain ⟨m1, m2⟩ := edgesX_mem hr e0
      have := sorted_gap hs h1 h2 (h _ m1)
      have := sorted_gap hs h1 h2 (h _ m2)
      exact ⟨e0, by omega, by omega, e3, e4⟩
    · rintro ⟨e0, e1, e2, e3, e4⟩
      obtain ⟨m1, m2⟩ := edgesX_mem hr e0
      have := sorted_gap hs h1 h2 (h _ m1)
      have := sorted_gap hs h1 h2 (h _ m2)
      exact ⟨e0, by omega, by omega, e3, e4⟩
  constructor
  · rintro ⟨r, hr, hh⟩; exact ⟨r, hr, (key r hr).1 hh⟩
  · rintro ⟨r, hr, hh⟩; exact ⟨r, hr, (key r hr).2 hh⟩
theorem inL_colout {xs : List Int} {l : List R4} (h : ∀ v ∈ edgesX l, v ∈ xs) {x : Int} (k : (∀ v ∈ xs, x < v) ∨ ∀ v ∈ xs, v ≤ x) (y : Int) : inL l x y = false := by
  rw [Bool.eq_false_iff]
  intro e
  obtain ⟨r, hr, hh⟩ := inL_iff.1 e
  obtain ⟨e0, e1, e2, e3, e4⟩ := hasR_iff.1 hh
  obtain ⟨m1, m2⟩ := edgesX_mem hr e0
  rcases k with k | k
  · have := k _ (h _ m1); omega
  · have := k _ (h _ m2); omega
theorem cuts_cols {xs : List Int} (hs : xs.Pairwise (· < ·)) {a b : List R4} {keep : Bool → Bool → Bool} (hk : keep false false = false) (ha : ∀ v ∈ edgesX a, v ∈ xs) (hb : ∀ v ∈ edgesX b, v ∈ xs) (y : Int) : Cuts xs (fun x => keepS keep a b x y) false := by
  refine ⟨hs, fun i lo hi h1 h2 x k1 k2 => ?_, fun x k => ?_, fun x k => ?_⟩
  · show keep _ _ = keep _ _
    rw [inL_col hs ha h1 h2 k1 k2, inL_col hs hb h1 h2 k1 k2]
  · show keep _ _ = _
    rw [inL_colout ha (.inl k), inL_colout hb (.inl k), hk]
  · show keep _ _ = _
    rw [inL_colout ha (.inr k), inL_colout hb (.inr k), hk]

/-! ## bounds -/
def boxL (l : List R4) : R4 := l.foldl unionS (0, 0, 0, 0)
def IsBox (S : Int → Int → Bool) (c : R4) : Prop :=
  (∀ x y, S x y = false) ∧ c = (0, 0, 0, 0) ∨
  rectEmptyS c = false ∧ (∀ x y, S x y = true → c.1 ≤ x ∧ x < c.2.2.1 ∧ c.2.1 ≤ y ∧ y < c.2.2.2) ∧ (∃ y, S c.1 y = true) ∧ (∃ y, S (c.2.2.1 - 1) y = true) ∧ (∃ x, S x c.2.1 = true) ∧ ∃ x, S x (c.2.2.2 - 1) = true
theorem zero_empty : rectEmptyS (0, 0, 0, 0) = true := rfl
theorem IsBox.uniq {S : Int → Int → Bool} {b c : R4} (h : IsBox S b) (k : IsBox S c) : b = c := by
  rcases h with ⟨h1, rfl⟩ | ⟨h1, h2, ⟨y1, h3⟩, ⟨y2, h4⟩, ⟨x1, h5⟩, x2, h6⟩
  · rcases k with ⟨_, rfl⟩ | ⟨_, _, ⟨y, k3⟩, _⟩
    · rfl
    · rw [h1] at k3; cases k3
  · rcases k with ⟨k1, rfl⟩ | ⟨k1, k2, ⟨y3, k3⟩, ⟨y4, k4⟩, ⟨x3, k5⟩, x4, k6⟩
    · rw [k1] at h3; cases h3
    · have a1 := h2 _ _ k3; have a2 := h2 _ _ k4; have a3 := h2 _ _ k5; have a4 := h2 _ _ k6
      have b1 := k2 _ _ h3; have b2 := k2 _ _ h4; have b3 := k2 _ _ h5; have b4 := k2 _ _ h6
      exact Prod.ext (by omega) (Prod.ext (by omega) (Prod.ext (by omega) (by omega)))
theorem IsBox.empty {S : Int → Int → Bool} {b : R4} (h : IsBox S b) (he : rectEmptyS b = true) : (∀ x y, S x y = false) ∧ b = (0, 0, 0, 0) := by
  rcases h with h | ⟨h, _⟩
  · exact h
  · rw [he] at h; cases h
theorem IsBox.full {S : Int → Int → Bool} {b : R4} (h : IsBox S b) (he : rectEmptyS b = false) : (∀ x y, S x y = true → b.1 ≤ x ∧ x < b.2.2.1 ∧ b.2.1 ≤ y ∧ y < b.2.2.2) ∧ (∃ y, S b.1 y = true) ∧ (∃ y, S (b.2.2.1 - 1) y = true) ∧ (∃ x, S x b.2.1 = true) ∧ ∃ x, S x (b.2.2.2 - 1) = true := by
  rcases h with ⟨_, rfl⟩ | ⟨_, h⟩
  · cases he
  · exact h
theorem IsBox.union {S T : Int → Int → Bool} {b c : R4} (h : IsBox S b) (k : IsBox T c) : IsBox (fun x y => S x y || T x y) (unionS b c) := by
  unfold unionS
  cases hb : rectEmptyS b
  · cases hc : rectEmptyS c
    · obtain ⟨h2, ⟨y1, h3⟩, ⟨y2, h4⟩, ⟨x1, h5⟩, x2, h6⟩ := h.full hb
      obtain ⟨k2, ⟨y3, k3⟩, ⟨y4, k4⟩, ⟨x3, k5⟩, x4, k6⟩ := k.full hc
      have e1 := empty_false hb
      have e2 := empty_false hc
      rw [if_neg (by simp), if_neg (by simp)]
      refine .inr ⟨empty_mk ?_ ?_ ?_ ?_ ?_ ?_, fun x y hxy => ?_, ?_, ?_, ?_, ?_⟩
      · dsimp only; omega
      · dsimp only; omega
      · dsimp only; omega
      · dsimp only; omega
      · dsimp only; omega
      · dsimp only; omega
      · dsimp only
        rcases Bool.or_eq_true_iff.1 hxy with e | e
        · have := h2 _ _ e; omega
        · have := k2 _ _ e; omega
      · dsimp only
        rcases Int.le_total b.1 c.1 with e | e
        · exact ⟨y1, by rw [Int.min_eq_left e, h3]; rfl⟩
        · exact ⟨y3, by rw [Int.min_eq_right e, k3, Bool.or_true]⟩
      · dsimp only
        rcases Int.le_total b.2.2.1 c.2.2.1 with e | e
        · exact ⟨y4, by rw [Int.max_eq_right e, k4, Bool.or_true]⟩
        · exact ⟨y2, by rw [Int.max_eq_left e, h4]; rfl⟩
      · dsimp only
        rcases Int.le_total b.2.1 c.2.1 with e | e
        · exact ⟨x1, by rw [Int.min_eq_left e, h5]; rfl⟩
        · exact ⟨x3, by rw [Int.min_eq_right e, k5, Bool.or_true]⟩
      · dsimp only
        rcases Int.le_total b.2.2.2 c.2.2.2 with e | e
        · exact ⟨x4, by rw [Int.max_eq_right e, k6, Bool.or_true]⟩
        · exact ⟨x2, by rw [Int.max_eq_left e, h6]; rfl⟩
    · rw [if_neg (by simp), if_pos rfl]
      have e : (fun x y => S x y || T x y) = S := funext fun x => funext fun y => by rw [(k.empty hc).1 x y, Bool.or_false]
      rw [e]
      exact h
  · rw [if_pos rfl]
    have e : (fun x y => S x y || T x y) = T := funext fun x => funext fun y => by rw [(h.empty hb).1 x y, Bool.false_or]
    rw [e]
    have e2 : rectCanonS c = c := by
      unfold rectCanonS
      cases hc : rectEmptyS c
      · rfl
      · rw [(k.empty hc).2]; rfl
    rw [e2]
    exact k
theorem IsBox.one (r : R4) : IsBox (hasR r) (rectCanonS r) := by
  unfold rectCanonS
  cases h : rectEmptyS r
  · rw [if_neg (by simp)]
    have e := empty_false h
    refine .inr ⟨h, fun x y hxy => (hasR_iff.1 hxy).2, ⟨r.2.1, hasR_iff.2 ⟨h, ?_⟩⟩, ⟨r.2.1, hasR_iff.2 ⟨h, ?_⟩⟩, ⟨r.1, hasR_iff.2 ⟨h, ?_⟩⟩, r.1, hasR_iff.2 ⟨h, ?_⟩⟩ <;> omega
  · rw [if_pos rfl]
    exact .inl ⟨fun x y => by unfold hasR; rw [h]; rfl, rfl⟩
theorem union_canon (b r : R4) : unionS b (rectCanonS r) = unionS b r := by
  unfold unionS rectCanonS
  cases hr : rectEmptyS r
  · simp [hr]
  · simp [zero_empty]
theorem boxL_snoc (l : List R4) (r : R4) : boxL (l ++ [r]) = unionS (boxL l) r := by simp [boxL]
theorem IsBox.list (l : List R4) : IsBox (inL l) (boxL l) := by
  have key : ∀ (m l : List R4) (c : R4), IsBox (inL l) c → IsBox (inL (l ++ m)) (m.foldl unionS c) := fun m => by
    induction m with
    | nil => intro l c h; rw [List.append_nil]; exact h
    | cons r m ih =>
      intro l c h
      have := ih (l ++ [r]) (unionS c r) (by
        have h1 := h.union (IsBox.one r)
        rw [union_canon] at h1
        have e : (fun x y => inL l x y || hasR r x y) = inL (l ++ [r]) := funext fun x => funext fun y => by simp [inL]
        rw [← e]
        exact h1)
      rw [List.append_assoc] at this
      exact this
  exact key l [] (0, 0, 0, 0) (.inl ⟨fun _ _ => rfl, rfl⟩)
theorem IsBox.congr {S T : Int → Int → Bool} {c : R4} (h : IsBox S c) (e : ∀ x y, S x y = T x y) : IsBox T c := by
  rw [show T = S from funext fun x => funext fun y => (e x y).symm]
  exact h
/-! ## a selection of a region's rectangles makes no more rectangles -/
theorem band_add {C : List Band} (h : OKB C) {lo hi : Int} (hle : ∀ c ∈ C, c.2.1 ≤ lo) (hlt : lo < hi) {rs : List Run} (hrs : OKR rs) :
    ∃ C', OKB C' ∧ (∀ c ∈ C', c.2.1 ≤ hi) ∧ (∀ y, atP [] C' y = if lo ≤ y ∧ y < hi then rs else atP [] C y) ∧ (rectsB C').length ≤ (rectsB C).length + rs.length := by
  by_cases h0 : rs = []
  · subst h0
    refine ⟨C, h, fun c hc => by have := hle c hc; omega, fun y => ?_, by simp⟩
    split
    · rename_i k
      exact atP_above fun c hc => by have := hle c hc; omega
    · rfl
  · by_cases hg : ∃ D a, C = D ++ [(a, lo, rs)]
    · obtain ⟨D, a, rfl⟩ := hg
      obtain ⟨k1, k2, k3⟩ := OKP.grow h.1 hlt
      refine ⟨D ++ [(a, hi, rs)], ⟨k1, fun b hb => ?_⟩, k2, k3, ?_⟩
      · rcases List.mem_append.1 hb with hb | hb
        · exact h.2 b (List.mem_append_left _ hb)
        · rw [List.mem_singleton.1 hb]; exact hrs
      · simp [rectsB]
    · obtain ⟨k1, k2, k3⟩ := OKP.push (v := rs) h.1 hle hlt h0 fun l hl e e2 => hg ⟨C.dropLast, l.1, by
        have hne : C ≠ [] := by rintro rfl; cases hl
        rw [← e, ← e2]
        have := List.dropLast_concat_getLast hne
        rw [List.getLast?_eq_some_getLast hne] at hl
        simp only [Option.mem_def, Option.some.injEq] at hl
        rw [hl] at this
        exact this.symm⟩
      refine ⟨C ++ [(lo, hi, rs)], ⟨k1, fun b hb => ?_⟩, k2, k3, ?_⟩
      · rcases List.mem_append.1 hb with hb | hb
        · exact h.2 b hb
        · rw [List.mem_singleton.1 hb]; exact hrs
      · simp [rectsB]
/-- pieces in order, one behind the other -/
def Ord (Q : List Band) : Prop := Q.Pairwise (fun a b => a.2.1 ≤ b.1) ∧ ∀ q ∈ Q, q.1 < q.2.1
theorem Ord.tail {q : Band} {Q : List Band} (h : Ord (q :: Q)) : Ord Q := ⟨(List.pairwise_cons.1 h.1).2, fun r hr => h.2 r (List.mem_cons_of_mem _ hr)⟩
theorem OKB.ord {B : List Band} (h : OKP [] B) : Ord B := by
  induction B with
  | nil => exact ⟨List.Pairwise.nil, fun q hq => by cases hq⟩
  | cons b B ih =>
    obtain ⟨h1, h2⟩ := ih h.tail
    refine ⟨List.pairwise_cons.2 ⟨h.low, h1⟩, fun q hq => ?_⟩
    rcases List.mem_cons.1 hq with rfl | hq
    · exact h.1
    · exact h2 q hq
theorem Ord.at_mem {Q : List Band} (h : Ord Q) {p : Band} (hp : p ∈ Q) {y : Int} (h1 : p.1 ≤ y) (h2 : y < p.2.1) (d : List Run) : atP d Q y = p.2.2 := by
  induction Q with
  | nil => cases hp
  | cons q qs ih =>
    rcases List.mem_cons.1 hp with rfl | hp
    · rw [atP, if_pos ⟨h1, h2⟩]
    · have := (List.pairwise_cons.1 h.1).1 p hp
      rw [atP, if_neg (by omega)]
      exact ih h.tail hp
theorem bands_of (Q : List Band) : ∀ (C : List Band), Ord Q → (∀ q ∈ Q, OKR q.2.2) → OKB C → (∀ c ∈ C, ∀ q ∈ Q, c.2.1 ≤ q.1) →
    ∃ C', OKB C' ∧ (∀ y, atP [] C' y = atP (atP [] C y) Q y) ∧ (rectsB C').length ≤ (rectsB C).length + (rectsB Q).length := by
  induction Q with
  | nil => intro C _ _ hC _; exact ⟨C, hC, fun y => rfl, by simp⟩
  | cons q Q ih =>
    intro C hQ hR hC hle
    obtain ⟨C1, k1, k2, k3, k4⟩ := band_add hC (lo := q.1) (hi := q.2.1) (fun c hc => hle c hc q List.mem_cons_self) (hQ.2 q List.mem_cons_self) (hR q List.mem_cons_self)
    obtain ⟨C', m1, m2, m3⟩ := ih C1 hQ.tail (fun r hr => hR r (List.mem_cons_of_mem _ hr)) k1 fun c hc r hr => by
      have := k2 c hc; have := (List.pairwise_cons.1 hQ.1).1 r hr; omega
    refine ⟨C', m1, fun y => ?_, ?_⟩
    · rw [m2, k3, atP]
      split
      · rename_i k
        exact atP_below fun r hr => by have := (List.pairwise_cons.1 hQ.1).1 r hr; omega
      · rfl
    · have e : (rectsB (q :: Q)).length = q.2.2.length + (rectsB Q).length := by simp [rectsB]
      omega
theorem OKR.iff {l : List Run} : OKR l ↔ l.Pairwise (fun a b => a.2 < b.1) ∧ ∀ r ∈ l, r.1 < r.2 := by
  induction l with
  | nil => simp [OKR, runPc, OKP]
  | cons r l ih =>
    have e : OKR (r :: l) ↔ r.1 < r.2 ∧ (∀ q ∈ l.head?, r.2 < q.1) ∧ OKR l := by
      show OKP false ((r.1, r.2, true) :: runPc l) ↔ _
      rw [OKP]
      constructor
      · rintro ⟨h1, _, h3, h4⟩
        refine ⟨h1, fun q hq => ?_, h4⟩
        have := h3 (q.1, q.2, true) (by unfold runPc; rw [List.head?_map, Option.mem_def.1 hq]; rfl)
        have h5 := this.1
        have h6 : r.2 ≠ q.1 := fun e => this.2 e rfl
        simp only at h5
        omega
      · rintro ⟨h1, h2, h3⟩
        refine ⟨h1, by simp, fun q hq => ?_, h3⟩
        unfold runPc at hq
        rw [List.head?_map] at hq
        cases hl : l.head? with
        | none => rw [hl] at hq; cases hq
        | some p =>
          rw [hl] at hq
          simp at hq
          subst hq
          have := h2 p hl
          exact ⟨by dsimp only; omega, fun e => by dsimp only at e; omega⟩
    rw [e, List.pairwise_cons, ih]
    constructor
    · rintro ⟨h1, h2, h3, h4⟩
      refine ⟨⟨fun q hq => ?_, h3⟩, fun q hq => ?_⟩
      · cases l with
        | nil => cases hq
        | cons p l =>
          have k := h2 p rfl
          rcases List.mem_cons.1 hq with rfl | hq
          · exact k
          · have := (List.pairwise_cons.1 h3).1 q hq; have := h4 p List.mem_cons_self; omega
      · rcases List.mem_cons.1 hq with rfl | hq
        · exact h1
        · exact h4 q hq
    · rintro ⟨⟨h1, h2⟩, h3⟩
      exact ⟨h3 r List.mem_cons_self, fun q hq => h1 q (List.mem_of_mem_head? hq), h2, fun q hq => h3 q (List.mem_cons_of_mem _ hq)⟩
theorem OKR.filter {l : List Run} (h : OKR l) (p : Run → Bool) : OKR (l.filter p) := by
  obtain ⟨h1, h2⟩ := OKR.iff.1 h
  exact OKR.iff.2 ⟨h1.filter p, fun r hr => h2 r (List.mem_filter.1 hr).1⟩
/-- the bands of a selection -/
def selB (p : R4 → Bool) (B : List Band) : List Band := B.map fun b => (b.1, b.2.1, b.2.2.filter fun r => p (r.1, b.1, r.2, b.2.1))
theorem selB_rects (p : R4 → Bool) (B : List Band) : rectsB (selB p B) = (rectsB B).filter p := by
  unfold selB rectsB
  induction B with
  | nil => rfl
  | cons b B ih =>
    rw [List.map_cons, List.flatMap_cons, List.flatMap_cons, List.filter_append, ih]
    congr 1
    rw [List.filter_map]
    rfl
theorem selB_ord {B : List Band} (h : Ord B) (p : R4 → Bool) : Ord (selB p B) := by
  refine ⟨?_, fun q hq => ?_⟩
  · unfold selB; rw [List.pairwise_map]; exact h.1
  · obtain ⟨b, hb, rfl⟩ := List.mem_map.1 hq
    exact h.2 b hb
theorem RegionOf.sel {S : Int → Int → Bool} {L : List R4} (h : RegionOf S L) (hw : InWin S) (p : R4 → Bool) : ∃ M, RegionOf (inL (L.filter p)) M ∧ M.length ≤ (L.filter p).length := by
  obtain ⟨B, h1, h2, rfl⟩ := h
  have e : inB B = S := funext fun x => funext fun y => h2 x y
  have hb := h1.win (by rw [e]; exact hw)
  have ho := OKB.ord h1.1
  obtain ⟨C, k1, k2, k3⟩ := bands_of (selB p B) [] (selB_ord ho p) (fun q hq => by
    obtain ⟨b, hb, rfl⟩ := List.mem_map.1 hq
    exact (h1.2 b hb).filter _) ⟨trivial, fun b hb => by cases hb⟩ fun c hc => by cases hc
  rw [selB_rects] at k3
  refine ⟨rectsB C, ⟨C, k1, fun x y => ?_, rfl⟩, by simpa [rectsB] using k3⟩
  unfold inB
  rw [k2]
  show inRuns (atP [] (selB p B) y) x = _
  rw [Bool.eq_iff_iff, inL_iff]
  constructor
  · intro hi
    rcases atP_mem (d := []) (P := selB p B) (y := y) with e | ⟨q, hq, e1, e2, e3⟩
    · rw [e] at hi; cases hi
    · rw [e3] at hi
      obtain ⟨b, hbm, rfl⟩ := List.mem_map.1 hq
      obtain ⟨r, hr, k4, k5⟩ := inRuns_mem.1 hi
      obtain ⟨hr1, hr2⟩ := List.mem_filter.1 hr
      obtain ⟨k6, k7⟩ := hb b hbm
      have k8 := k7 r hr1
      dsimp only at e1 e2
      refine ⟨(r.1, b.1, r.2, b.2.1), List.mem_filter.2 ⟨List.mem_flatMap.2 ⟨b, hbm, List.mem_map.2 ⟨r, hr1, rfl⟩⟩, hr2⟩, hasR_iff.2 ⟨empty_mk ?_ ?_ ?_ ?_ ?_ ?_, k4, k5, e1, e2⟩⟩ <;> dsimp only <;> omega
  · rintro ⟨r, hr, hh⟩
    obtain ⟨hr1, hr2⟩ := List.mem_filter.1 hr
    obtain ⟨b, hbm, hr3⟩ := List.mem_flatMap.1 hr1
    obtain ⟨q, hq, rfl⟩ := List.mem_map.1 hr3
    obtain ⟨_, m1, m2, m3, m4⟩ := hasR_iff.1 hh
    dsimp only at m1 m2 m3 m4
    have := (selB_ord ho p).at_mem (p := (b.1, b.2.1, b.2.2.filter fun r => p (r.1, b.1, r.2, b.2.1))) (List.mem_map.2 ⟨b, hbm, rfl⟩) m3 m4 []
    rw [this]
    exact inRuns_mem.2 ⟨q, List.mem_filter.2 ⟨hq, hr2⟩, m1, m2⟩
theorem inL_congr {l m : List R4} (h : ∀ r, r ∈ l ↔ r ∈ m) (x y : Int) : inL l x y = inL m x y := by
  rw [Bool.eq_iff_iff, inL_iff, inL_iff]
  exact ⟨fun ⟨r, hr, hh⟩ => ⟨r, (h r).1 hr, hh⟩, fun ⟨r, hr, hh⟩ => ⟨r, (h r).2 hr, hh⟩⟩

end Go.Reg
