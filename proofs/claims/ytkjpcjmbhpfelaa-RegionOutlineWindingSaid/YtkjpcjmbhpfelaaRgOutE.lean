/- Outlines: the program's edges are the boundary of the pixels, each unit once. Plain law: no walk stands here. -/
import Derived.Test.YtkjpcjmbhpfelaaRgOutR
set_option linter.unusedVariables false
set_option linter.unusedSimpArgs false
namespace Go.Reg
open Go.Proofs.Ytkjpcjmbhpfelaa

/-- the parts of an interval that no rectangle of l covers -/
def unc (x1 : Int) : Int → List R4 → List (Int × Int)
  | x0, [] => if x0 < x1 then [(x0, x1)] else []
  | x0, r :: l => if r.2.2.1 ≤ x0 ∨ x1 ≤ r.1 then unc x1 x0 l else (if x0 < r.1 then [(x0, r.1)] else []) ++ unc x1 r.2.2.1 l
theorem unc_length {x1 : Int} : ∀ (l : List R4) (x0 : Int), (unc x1 x0 l).length ≤ l.length + 1 := by
  intro l
  induction l with
  | nil => intro x0; unfold unc; split <;> simp
  | cons r l ih =>
    intro x0
    unfold unc
    have h1 := ih x0
    have h2 := ih r.2.2.1
    split
    · simp; omega
    · split <;> simp <;> omega
theorem unc_in {x1 : Int} : ∀ (l : List R4) (x0 : Int), l.Pairwise (fun r s => r.2.2.1 < s.1) → (∀ r ∈ l, r.1 < r.2.2.1) → ∀ p ∈ unc x1 x0 l, x0 ≤ p.1 ∧ p.1 < p.2 ∧ p.2 ≤ x1 ∧ ∀ r ∈ l, r.2.2.1 ≤ p.1 ∨ p.2 ≤ r.1 := by
  intro l
  induction l with
  | nil =>
    intro x0 _ _ p hp
    unfold unc at hp
    split at hp
    · simp at hp; subst hp; exact ⟨by dsimp only; omega, by assumption, by dsimp only; omega, fun r h => (List.not_mem_nil h).elim⟩
    · cases hp
  | cons r l ih =>
    intro x0 hs hw p hp
    obtain ⟨s1, s2⟩ := List.pairwise_cons.1 hs
    have hw' := fun s (h : s ∈ l) => hw s (List.mem_cons_of_mem _ h)
    have hr := hw r List.mem_cons_self
    unfold unc at hp
    split at hp
    · rename_i hk
      obtain ⟨a1, a2, a3, a4⟩ := ih x0 s2 hw' p hp
      refine ⟨a1, a2, a3, fun s hm => ?_⟩
      rcases List.mem_cons.1 hm with rfl | hm
      · omega
      · exact a4 s hm
    · rename_i hk
      rcases List.mem_append.1 hp with hp | hp
      · split at hp
        · simp at hp
          subst hp
          refine ⟨by dsimp only; omega, by assumption, by dsimp only; omega, fun s hm => ?_⟩
          rcases List.mem_cons.1 hm with rfl | hm
          · dsimp only; omega
          · have := s1 s hm; dsimp only; omega
        · cases hp
      · obtain ⟨a1, a2, a3, a4⟩ := ih r.2.2.1 s2 hw' p hp
        refine ⟨by omega, a2, a3, fun s hm => ?_⟩
        rcases List.mem_cons.1 hm with rfl | hm
        · omega
        · exact a4 s hm
theorem unc_cover {x1 : Int} : ∀ (l : List R4) (x0 : Int), ∀ x, x0 ≤ x → x < x1 → (∀ r ∈ l, ¬ (r.1 ≤ x ∧ x < r.2.2.1)) → ∃ p ∈ unc x1 x0 l, p.1 ≤ x ∧ x < p.2 := by
  intro l
  induction l with
  | nil =>
    intro x0 x h1 h2 _
    unfold unc
    rw [if_pos (by omega)]
    exact ⟨_, List.mem_singleton.2 rfl, h1, h2⟩
  | cons r l ih =>
    intro x0 x h1 h2 h
    have hr := h r List.mem_cons_self
    have h' := fun s (k : s ∈ l) => h s (List.mem_cons_of_mem _ k)
    unfold unc
    split
    · exact ih x0 x h1 h2 h'
    · rcases Int.lt_or_le x r.1 with k | k
      · rw [if_pos (by omega)]
        exact ⟨(x0, r.1), by simp, h1, k⟩
      · obtain ⟨p, hp, h3⟩ := ih r.2.2.1 x (by omega) h2 h'
        exact ⟨p, List.mem_append_right _ hp, h3⟩
theorem unc_apart {x1 : Int} : ∀ (l : List R4) (x0 : Int), l.Pairwise (fun r s => r.2.2.1 < s.1) → (∀ r ∈ l, r.1 < r.2.2.1) → (unc x1 x0 l).Pairwise fun p q => p.2 ≤ q.1 := by
  intro l
  induction l with
  | nil => intro x0 _ _; unfold unc; split <;> simp
  | cons r l ih =>
    intro x0 hs hw
    obtain ⟨s1, s2⟩ := List.pairwise_cons.1 hs
    have hw' := fun s (h : s ∈ l) => hw s (List.mem_cons_of_mem _ h)
    have hr := hw r List.mem_cons_self
    unfold unc
    split
    · exact ih x0 s2 hw'
    · refine List.pairwise_append.2 ⟨by split <;> simp, ih _ s2 hw', fun p hp q hq => ?_⟩
      split at hp
      · simp at hp
        subst hp
        have := (unc_in l r.2.2.1 s2 hw' q hq).1
        dsimp only
        omega
      · cases hp
def aboveL (L : List R4) (y : Int) : List R4 := L.filter fun s => decide (s.2.2.2 = y)
def belowL (L : List R4) (y : Int) : List R4 := L.filter fun s => decide (s.2.1 = y)
def topE (L : List R4) (r : R4) : List Edg := (unc r.2.2.1 r.1 (aboveL L r.2.1)).map fun p => (p.1, r.2.1, p.2, r.2.1, 0)
def botE (L : List R4) (r : R4) : List Edg := (unc r.2.2.1 r.1 (belowL L r.2.2.2)).map fun p => (p.2, r.2.2.2, p.1, r.2.2.2, 2)
def downE (r : R4) : Edg := (r.2.2.1, r.2.1, r.2.2.1, r.2.2.2, 1)
def upE (r : R4) : Edg := (r.1, r.2.2.2, r.1, r.2.1, 3)
def rectE4 (L : List R4) (r : R4) : List Edg := topE L r ++ downE r :: (botE L r ++ [upE r])
def edgesOf (L : List R4) : List Edg := L.flatMap (rectE4 L)
theorem mem_rectE4 {L : List R4} {r : R4} {e : Edg} (h : e ∈ rectE4 L r) : (∃ p ∈ unc r.2.2.1 r.1 (aboveL L r.2.1), e = (p.1, r.2.1, p.2, r.2.1, 0)) ∨ e = downE r ∨ (∃ p ∈ unc r.2.2.1 r.1 (belowL L r.2.2.2), e = (p.2, r.2.2.2, p.1, r.2.2.2, 2)) ∨ e = upE r := by
  unfold rectE4 at h
  rcases List.mem_append.1 h with h | h
  · obtain ⟨p, hp, rfl⟩ := List.mem_map.1 h; exact .inl ⟨p, hp, rfl⟩
  · rcases List.mem_cons.1 h with h | h
    · exact .inr (.inl h)
    · rcases List.mem_append.1 h with h | h
      · obtain ⟨p, hp, rfl⟩ := List.mem_map.1 h; exact .inr (.inr (.inl ⟨p, hp, rfl⟩))
      · exact .inr (.inr (.inr (List.mem_singleton.1 h)))
/-- rectangles of one band are in order -/
theorem RegionOf.ordered {S : Pix} {L : List R4} (h : RegionOf S L) (hw : InWin S) : L.Pairwise (fun r s => (r.2.2.2 = s.2.2.2 → r.2.2.1 < s.1) ∧ (r.2.1 = s.2.1 → r.2.2.1 < s.1)) := by
  obtain ⟨B, h1, h2, rfl⟩ := h
  have e : inB B = S := funext fun x => funext fun y => h2 x y
  have hb := h1.win (by rw [e]; exact hw)
  have ho := OKB.ord h1.1
  unfold rectsB
  rw [List.pairwise_flatMap]
  refine ⟨fun b hbm => ?_, ?_⟩
  · rw [List.pairwise_map]
    exact (OKR.iff.1 (h1.2 b hbm)).1.imp fun {p q} hpq => ⟨fun _ => hpq, fun _ => hpq⟩
  · refine List.Pairwise.imp_of_mem (fun {b c} hbm hcm hbc r hr s hs => ?_) ho.1
    obtain ⟨p, hp, rfl⟩ := List.mem_map.1 hr
    obtain ⟨q, hq, rfl⟩ := List.mem_map.1 hs
    have k1 := (hb b hbm).1
    have k2 := (hb c hcm).1
    exact ⟨fun e => by dsimp only at e; omega, fun e => by dsimp only at e; omega⟩
theorem above_ok {S : Pix} {L : List R4} (h : RegionOf S L) (hw : InWin S) (y : Int) : (aboveL L y).Pairwise (fun r s => r.2.2.1 < s.1) ∧ ∀ r ∈ aboveL L y, r.1 < r.2.2.1 := by
  refine ⟨?_, fun r hr => ?_⟩
  · refine List.Pairwise.imp_of_mem (fun {a b} ha hb hab => ?_) ((h.ordered hw).filter _)
    have h1 := (List.mem_filter.1 ha).2
    have h2 := (List.mem_filter.1 hb).2
    simp at h1 h2
    exact hab.1 (by rw [h1, h2])
  · have := empty_false ((h.geo hw).full r (List.mem_filter.1 hr).1)
    omega
theorem below_ok {S : Pix} {L : List R4} (h : RegionOf S L) (hw : InWin S) (y : Int) : (belowL L y).Pairwise (fun r s => r.2.2.1 < s.1) ∧ ∀ r ∈ belowL L y, r.1 < r.2.2.1 := by
  refine ⟨?_, fun r hr => ?_⟩
  · refine List.Pairwise.imp_of_mem (fun {a b} ha hb hab => ?_) ((h.ordered hw).filter _)
    have h1 := (List.mem_filter.1 ha).2
    have h2 := (List.mem_filter.1 hb).2
    simp at h1 h2
    exact hab.2 (by rw [h1, h2])
  · have := empty_false ((h.geo hw).full r (List.mem_filter.1 hr).1)
    omega
/-- the pixel to which a unit edge belongs -/
def ownX (d : Nat) (x : Int) : Int := if d = 1 ∨ d = 2 then x - 1 else x
def ownY (d : Nat) (y : Int) : Int := if d = 2 ∨ d = 3 then y - 1 else y
theorem rect_own {S : Pix} {L : List R4} (h : RegionOf S L) (hw : InWin S) {r : R4} (hr : r ∈ L) {e : Edg} (he : e ∈ rectE4 L r) {d : Nat} {x y : Int} (hc : covE e d x y) : hasR r (ownX d x) (ownY d y) = true := by
  have hf := (h.geo hw).full r hr
  have hb := empty_false hf
  obtain ⟨a1, a2⟩ := above_ok h hw r.2.1
  obtain ⟨b1, b2⟩ := below_ok h hw r.2.2.2
  rcases mem_rectE4 he with ⟨p, hp, rfl⟩ | rfl | ⟨p, hp, rfl⟩ | rfl
  · have := unc_in _ _ a1 a2 p hp
    obtain ⟨rfl, hc⟩ := hc
    dsimp only at hc
    refine hasR_iff.2 ⟨hf, ?_⟩
    rw [show ownX 0 x = x from rfl, show ownY 0 y = y from rfl]
    omega
  · obtain ⟨rfl, hc⟩ := hc
    simp only [downE] at hc ⊢
    refine hasR_iff.2 ⟨hf, ?_⟩
    rw [show ownX 1 x = x - 1 from rfl, show ownY 1 y = y from rfl]
    omega
  · have := unc_in _ _ b1 b2 p hp
    obtain ⟨rfl, hc⟩ := hc
    dsimp only at hc
    refine hasR_iff.2 ⟨hf, ?_⟩
    rw [show ownX 2 x = x - 1 from rfl, show ownY 2 y = y - 1 from rfl]
    omega
  · obtain ⟨rfl, hc⟩ := hc
    simp only [upE] at hc ⊢
    refine hasR_iff.2 ⟨hf, ?_⟩
    rw [show ownX 3 x = x from rfl, show ownY 3 y = y - 1 from rfl]
    omega
theorem outB_iff {S : Pix} {x y : Int} : (outB S 0 x y = true ↔ S x y = true ∧ S x (y - 1) = false) ∧ (outB S 1 x y = true ↔ S (x - 1) y = true ∧ S x y = false) ∧
    (outB S 2 x y = true ↔ S (x - 1) (y - 1) = true ∧ S (x - 1) y = false) ∧ (outB S 3 x y = true ↔ S x (y - 1) = true ∧ S (x - 1) (y - 1) = false) := by
  unfold outB outQ
  simp
theorem Geo.same {S : Pix} {L : List R4} (h : Geo S L) {r s : R4} (hr : r ∈ L) (hs : s ∈ L) {x y : Int} (h1 : hasR r x y = true) (h2 : hasR s x y = true) : r = s := by
  obtain ⟨i, hi⟩ := List.mem_iff_getElem?.1 hr
  obtain ⟨j, hj⟩ := List.mem_iff_getElem?.1 hs
  have := h.idx hi hj h1 h2
  subst this
  rw [hi] at hj
  injection hj
theorem Geo.findR {S : Pix} {L : List R4} (h : Geo S L) {x y : Int} (hS : S x y = true) : ∃ r ∈ L, hasR r x y = true := by
  obtain ⟨i, r, h1, h2⟩ := h.find hS
  exact ⟨r, List.mem_of_getElem? h1, h2⟩
theorem rect_unit {S : Pix} {L : List R4} (h : RegionOf S L) (hw : InWin S) {r : R4} (hr : r ∈ L) {e : Edg} (he : e ∈ rectE4 L r) : unitE S e := by
  intro d x y hc
  have hg := h.geo hw
  have ho := rect_own h hw hr he hc
  have hf := hg.full r hr
  have hb := empty_false hf
  obtain ⟨a1, a2⟩ := above_ok h hw r.2.1
  obtain ⟨b1, b2⟩ := below_ok h hw r.2.2.2
  obtain ⟨o0, o1, o2, o3⟩ := outB_iff (S := S) (x := x) (y := y)
  rcases mem_rectE4 he with ⟨p, hp, rfl⟩ | rfl | ⟨p, hp, rfl⟩ | rfl
  · obtain ⟨k1, k2, k3, k4⟩ := unc_in _ _ a1 a2 p hp
    obtain ⟨rfl, hc⟩ := hc
    dsimp only at hc ho
    simp only [ownX, ownY] at ho
    refine o0.2 ⟨hg.sub hr _ _ ho, ?_⟩
    rw [Bool.eq_false_iff]
    intro hs
    obtain ⟨s, hs, hh⟩ := hg.findR hs
    obtain ⟨m0, m1, m2, m3, m4⟩ := hasR_iff.1 hh
    have hy : s.2.2.2 = r.2.1 := by
      by_cases e : y < s.2.2.2
      · have := hg.same hr hs ho (hasR_iff.2 ⟨m0, m1, m2, by omega, e⟩)
        subst this
        omega
      · omega
    have := k4 s (List.mem_filter.2 ⟨hs, by simpa using hy⟩)
    omega
  · obtain ⟨rfl, hc⟩ := hc
    simp only [downE] at hc ho
    simp only [ownX, ownY] at ho
    refine o1.2 ⟨hg.sub hr _ _ (by simpa using ho), ?_⟩
    rw [Bool.eq_false_iff]
    intro hs
    obtain ⟨s, hs, hh⟩ := hg.findR hs
    have := hg.side r hr s hs (x - 1) y (by simpa using ho) (by rw [Int.sub_add_cancel]; exact hh)
    have := (hasR_iff.1 this).2.2.1
    omega
  · obtain ⟨k1, k2, k3, k4⟩ := unc_in _ _ b1 b2 p hp
    obtain ⟨rfl, hc⟩ := hc
    dsimp only at hc ho
    simp only [ownX, ownY] at ho
    have ho' : hasR r (x - 1) (y - 1) = true := by simpa using ho
    refine o2.2 ⟨hg.sub hr _ _ ho', ?_⟩
    rw [Bool.eq_false_iff]
    intro hs
    obtain ⟨s, hs, hh⟩ := hg.findR hs
    obtain ⟨m0, m1, m2, m3, m4⟩ := hasR_iff.1 hh
    have hy : s.2.1 = r.2.2.2 := by
      by_cases e : s.2.1 ≤ y - 1
      · have := hg.same hr hs ho' (hasR_iff.2 ⟨m0, m1, m2, e, by omega⟩)
        subst this
        omega
      · omega
    have := k4 s (List.mem_filter.2 ⟨hs, by simpa using hy⟩)
    omega
  · obtain ⟨rfl, hc⟩ := hc
    simp only [upE] at hc ho
    simp only [ownX, ownY] at ho
    have ho' : hasR r x (y - 1) = true := by simpa using ho
    refine o3.2 ⟨hg.sub hr _ _ ho', ?_⟩
    rw [Bool.eq_false_iff]
    intro hs
    obtain ⟨s, hs, hh⟩ := hg.findR hs
    have h1 := hg.side s hs r hr (x - 1) (y - 1) hh (by rw [Int.sub_add_cancel]; exact ho')
    rw [Int.sub_add_cancel] at h1
    have := hg.same hr hs ho' h1
    subst this
    have := (hasR_iff.1 hh).2.1
    omega
theorem rect_shape {S : Pix} {L : List R4} (h : RegionOf S L) (hw : InWin S) {r : R4} (hr : r ∈ L) {e : Edg} (he : e ∈ rectE4 L r) : shapeE e := by
  have hb := empty_false ((h.geo hw).full r hr)
  obtain ⟨a1, a2⟩ := above_ok h hw r.2.1
  obtain ⟨b1, b2⟩ := below_ok h hw r.2.2.2
  rcases mem_rectE4 he with ⟨p, hp, rfl⟩ | rfl | ⟨p, hp, rfl⟩ | rfl
  · have := unc_in _ _ a1 a2 p hp
    unfold shapeE; dsimp only; omega
  · unfold shapeE downE; dsimp only; omega
  · have := unc_in _ _ b1 b2 p hp
    unfold shapeE; dsimp only; omega
  · unfold shapeE upE; dsimp only; omega
theorem edges_sys {S : Pix} {L : List R4} (h : RegionOf S L) (hw : InWin S) : EdgeSys S (edgesOf L) := by
  have hg := h.geo hw
  have un : ∀ e ∈ edgesOf L, ∃ r ∈ L, e ∈ rectE4 L r := fun e he => List.mem_flatMap.1 he
  refine ⟨fun e he => ?_, fun e he => ?_, fun d x y hd ho => ?_, ?_⟩
  · obtain ⟨r, hr, he⟩ := un e he; exact rect_shape h hw hr he
  · obtain ⟨r, hr, he⟩ := un e he; exact rect_unit h hw hr he
  · have fin : ∀ (r : R4) (e : Edg), r ∈ L → e ∈ rectE4 L r → covE e d x y → ∃ (i : Nat) (e : Edg), (edgesOf L)[i]? = some e ∧ covE e d x y := fun r e hr he hc => by
      obtain ⟨i, hi⟩ := List.mem_iff_getElem?.1 (List.mem_flatMap.2 ⟨r, hr, he⟩ : e ∈ edgesOf L)
      exact ⟨i, e, hi, hc⟩
    obtain ⟨o0, o1, o2, o3⟩ := outB_iff (S := S) (x := x) (y := y)
    rcases (show d = 0 ∨ d = 1 ∨ d = 2 ∨ d = 3 by omega) with rfl | rfl | rfl | rfl
    · obtain ⟨k1, k2⟩ := o0.1 ho
      obtain ⟨r, hr, hh⟩ := hg.findR k1
      obtain ⟨m0, m1, m2, m3, m4⟩ := hasR_iff.1 hh
      have hy : r.2.1 = y := by
        by_cases e : r.2.1 ≤ y - 1
        · have := hg.sub hr x (y - 1) (hasR_iff.2 ⟨m0, m1, m2, e, by omega⟩)
          rw [this] at k2; cases k2
        · omega
      obtain ⟨p, hp, p1, p2⟩ := unc_cover (x1 := r.2.2.1) (aboveL L r.2.1) r.1 x m1 m2 fun s hs ⟨s1, s2⟩ => by
        obtain ⟨hs, hy2⟩ := List.mem_filter.1 hs
        simp at hy2
        have hb := empty_false (hg.full s hs)
        have := hg.sub hs x (y - 1) (hasR_iff.2 ⟨hg.full s hs, s1, s2, by omega, by omega⟩)
        rw [this] at k2; cases k2
      refine fin r _ hr (List.mem_append_left _ (List.mem_map.2 ⟨p, hp, rfl⟩)) ⟨rfl, ?_⟩
      dsimp only; omega
    · obtain ⟨k1, k2⟩ := o1.1 ho
      obtain ⟨r, hr, hh⟩ := hg.findR k1
      obtain ⟨m0, m1, m2, m3, m4⟩ := hasR_iff.1 hh
      have hx : r.2.2.1 = x := by
        by_cases e : x < r.2.2.1
        · have := hg.sub hr x y (hasR_iff.2 ⟨m0, by omega, e, m3, m4⟩)
          rw [this] at k2; cases k2
        · omega
      refine fin r (downE r) hr (List.mem_append_right _ List.mem_cons_self) ⟨rfl, ?_⟩
      unfold downE; dsimp only; omega
    · obtain ⟨k1, k2⟩ := o2.1 ho
      obtain ⟨r, hr, hh⟩ := hg.findR k1
      obtain ⟨m0, m1, m2, m3, m4⟩ := hasR_iff.1 hh
      have hy : r.2.2.2 = y := by
        by_cases e : y < r.2.2.2
        · have := hg.sub hr (x - 1) y (hasR_iff.2 ⟨m0, m1, m2, by omega, e⟩)
          rw [this] at k2; cases k2
        · omega
      obtain ⟨p, hp, p1, p2⟩ := unc_cover (x1 := r.2.2.1) (belowL L r.2.2.2) r.1 (x - 1) m1 m2 fun s hs ⟨s1, s2⟩ => by
        obtain ⟨hs, hy2⟩ := List.mem_filter.1 hs
        simp at hy2
        have hb := empty_false (hg.full s hs)
        have := hg.sub hs (x - 1) y (hasR_iff.2 ⟨hg.full s hs, s1, s2, by omega, by omega⟩)
        rw [this] at k2; cases k2
      refine fin r _ hr (List.mem_append_right _ (List.mem_cons_of_mem _ (List.mem_append_left _ (List.mem_map.2 ⟨p, hp, rfl⟩)))) ⟨rfl, ?_⟩
      dsimp only; omega
    · obtain ⟨k1, k2⟩ := o3.1 ho
      obtain ⟨r, hr, hh⟩ := hg.findR k1
      obtain ⟨m0, m1, m2, m3, m4⟩ := hasR_iff.1 hh
      have hx : r.1 = x := by
        by_cases e : r.1 ≤ x - 1
        · have := hg.sub hr (x - 1) (y - 1) (hasR_iff.2 ⟨m0, e, by omega, m3, m4⟩)
          rw [this] at k2; cases k2
        · omega
      refine fin r (upE r) hr (List.mem_append_right _ (List.mem_cons_of_mem _ (List.mem_append_right _ (List.mem_singleton.2 rfl)))) ⟨rfl, ?_⟩
      unfold upE; dsimp only; omega
  · have hpw : (edgesOf L).Pairwise fun e f => ∀ d x y, covE e d x y → covE f d x y → False := by
      unfold edgesOf
      rw [List.pairwise_flatMap]
      refine ⟨fun r hr => ?_, ?_⟩
      · obtain ⟨a1, a2⟩ := above_ok h hw r.2.1
        obtain ⟨b1, b2⟩ := below_ok h hw r.2.2.2
        unfold rectE4 topE botE
        refine List.pairwise_append.2 ⟨?_, List.pairwise_cons.2 ⟨fun f hf d x y h1 h2 => ?_, List.pairwise_append.2 ⟨?_, by simp, fun e he f hf d x y h1 h2 => ?_⟩⟩, fun e he f hf d x y h1 h2 => ?_⟩
        · rw [List.pairwise_map]
          exact (unc_apart _ r.1 a1 a2).imp fun {p q} hpq d x y h1 h2 => by
            unfold covE at h1 h2; dsimp only at h1 h2; omega
        · have hd := h1.1
          have hd2 := h2.1
          rcases List.mem_append.1 hf with hf | hf
          · obtain ⟨p, _, rfl⟩ := List.mem_map.1 hf
            simp only [downE] at hd; dsimp only at hd2; omega
          · rw [List.mem_singleton.1 hf] at hd2
            simp only [downE] at hd; simp only [upE] at hd2; omega
        · rw [List.pairwise_map]
          exact (unc_apart _ r.1 b1 b2).imp fun {p q} hpq d x y h1 h2 => by
            unfold covE at h1 h2; dsimp only at h1 h2; omega
        · have hd := h1.1
          have hd2 := h2.1
          obtain ⟨p, _, rfl⟩ := List.mem_map.1 he
          rw [List.mem_singleton.1 hf] at hd2
          dsimp only at hd; simp only [upE] at hd2; omega
        · have hd := h1.1
          have hd2 := h2.1
          obtain ⟨p, _, rfl⟩ := List.mem_map.1 he
          dsimp only at hd
          rcases List.mem_cons.1 hf with rfl | hf
          · simp only [downE] at hd2; omega
          · rcases List.mem_append.1 hf with hf | hf
            · obtain ⟨p, _, rfl⟩ := List.mem_map.1 hf
              dsimp only at hd2; omega
            · rw [List.mem_singleton.1 hf] at hd2
              simp only [upE] at hd2; omega
      · refine List.Pairwise.imp_of_mem (fun {r s} hr hs hrs e he f hf d x y h1 h2 => ?_) hg.apart
        exact hrs _ _ (rect_own h hw hr he h1) (rect_own h hw hs hf h2)
    intro i j e f d x y hi hj he hf
    obtain ⟨ki, ei⟩ := List.getElem?_eq_some_iff.1 hi
    obtain ⟨kj, ej⟩ := List.getElem?_eq_some_iff.1 hj
    have hp := List.pairwise_iff_getElem.1 hpw
    rcases Nat.lt_trichotomy i j with k | k | k
    · exact (hp i j ki kj k d x y (by rw [ei]; exact he) (by rw [ej]; exact hf)).elim
    · exact k
    · exact (hp j i kj ki k d x y (by rw [ej]; exact hf) (by rw [ei]; exact he)).elim
end Go.Reg
