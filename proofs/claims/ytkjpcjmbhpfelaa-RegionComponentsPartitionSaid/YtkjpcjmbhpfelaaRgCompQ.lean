/- Components: every pixel lies in one component, with its neighbours; the areas add up. Plain law: no walk stands here. -/
import Derived.Test.YtkjpcjmbhpfelaaRgCompP
set_option linter.unusedVariables false
set_option linter.unusedSimpArgs false
namespace Go.Reg
open Go.Proofs.Ytkjpcjmbhpfelaa

theorem comp_in {L : List R4} {i : Nat} {P M : List R4} (hP : CompOf L i P) (hM : RegionOf (inL P) M) (x y : Int) : inL M x y = true ↔ ∃ (j : Nat) (r : R4), IConn L i j ∧ L[j]? = some r ∧ hasR r x y = true := by
  rw [hM.has (inL_win P), inL_iff]
  constructor
  · rintro ⟨r, hr, hh⟩; obtain ⟨j, h1, h2⟩ := (hP r).1 hr; exact ⟨j, r, h1, h2, hh⟩
  · rintro ⟨j, r, h1, h2, hh⟩; exact ⟨r, (hP r).2 ⟨j, h1, h2⟩, hh⟩
theorem CompsOf.at {L : List R4} {ms : List Nat} {C : List (List R4)} (h : CompsOf L ms C) {k : Nat} {M : List R4} (hM : C[k]? = some M) : ∃ i P, ms[k]? = some i ∧ CompOf L i P ∧ RegionOf (inL P) M := by
  have hk := (List.getElem?_eq_some_iff.1 hM).1
  rw [h.len] at hk
  obtain ⟨P, h1, h2⟩ := h.each k _ M (List.getElem?_eq_getElem hk) hM
  exact ⟨_, P, List.getElem?_eq_getElem hk, h1, h2⟩
/-- what the first k components hold -/
def upC (C : List (List R4)) (k : Nat) (x y : Int) : Bool := (C.take k).any fun M => inL M x y
theorem upC_zero (C : List (List R4)) (x y : Int) : upC C 0 x y = false := by simp [upC]
theorem upC_succ {C : List (List R4)} {k : Nat} {M : List R4} (hM : C[k]? = some M) (x y : Int) : upC C (k + 1) x y = (upC C k x y || inL M x y) := by
  unfold upC
  rw [take_succ_of hM]
  simp
theorem upC_iff {C : List (List R4)} {k : Nat} {x y : Int} : upC C k x y = true ↔ ∃ (j : Nat) (M : List R4), j < k ∧ C[j]? = some M ∧ inL M x y = true := by
  unfold upC
  rw [List.any_eq_true]
  constructor
  · rintro ⟨M, hM, hh⟩
    obtain ⟨j, hj⟩ := List.mem_iff_getElem?.1 hM
    have hl := (List.getElem?_eq_some_iff.1 hj).1
    rw [List.length_take] at hl
    rw [List.getElem?_take_of_lt (by omega)] at hj
    exact ⟨j, M, by omega, hj, hh⟩
  · rintro ⟨j, M, hj, hM, hh⟩
    exact ⟨M, List.mem_of_getElem? (i := j) (by rw [List.getElem?_take_of_lt hj]; exact hM), hh⟩
theorem comp_apart {S : Int → Int → Bool} {L : List R4} (hg : Geo S L) {ms : List Nat} {C : List (List R4)} (hm : Mins L L.length ms) (h : CompsOf L ms C) {k : Nat} {M : List R4} (hM : C[k]? = some M) {x y : Int} (hu : upC C k x y = true) : inL M x y = false := by
  rw [Bool.eq_false_iff]
  intro hin
  obtain ⟨k', M', hlt, hM', hin'⟩ := upC_iff.1 hu
  obtain ⟨i, P, hi, hP, hR⟩ := h.at hM
  obtain ⟨i', P', hi', hP', hR'⟩ := h.at hM'
  obtain ⟨j, r, c1, c2, c3⟩ := (comp_in hP hR x y).1 hin
  obtain ⟨j', r', d1, d2, d3⟩ := (comp_in hP' hR' x y).1 hin'
  have e := hg.idx c2 d2 c3 d3
  subst e
  have hl := ((hm.mem i).1 (List.mem_of_getElem? hi)).2.2
  have hl' := ((hm.mem i').1 (List.mem_of_getElem? hi')).2.2
  have h1 := hl i' (c1.trans d1.symm)
  have h2 := hl' i (d1.trans c1.symm)
  have hp := List.pairwise_iff_getElem.1 hm.sorted
  obtain ⟨a1, a2⟩ := List.getElem?_eq_some_iff.1 hi
  obtain ⟨b1, b2⟩ := List.getElem?_eq_some_iff.1 hi'
  have := hp k' k b1 a1 hlt
  omega
theorem least_of {L : List R4} : ∀ (n i : Nat), i ≤ n → i < L.length → ∃ j, IConn L i j ∧ Least L j := by
  intro n
  induction n with
  | zero => intro i h0 hi; exact ⟨i, .refl i hi, fun j _ => by omega⟩
  | succ n ih =>
    intro i h0 hi
    by_cases hl : Least L i
    · exact ⟨i, .refl i hi, hl⟩
    · obtain ⟨j, hj⟩ := Classical.not_forall.1 hl
      obtain ⟨hc, hlt⟩ := Classical.not_imp.1 hj
      obtain ⟨m, h1, h2⟩ := ih j (by omega) hc.lt.2
      exact ⟨m, hc.trans h1, h2⟩
theorem comp_cover {S : Int → Int → Bool} {L : List R4} (hg : Geo S L) {ms : List Nat} {C : List (List R4)} (hm : Mins L L.length ms) (h : CompsOf L ms C) (x y : Int) : upC C C.length x y = S x y := by
  rw [Bool.eq_iff_iff, upC_iff]
  constructor
  · rintro ⟨k, M, _, hM, hin⟩
    obtain ⟨i, P, hi, hP, hR⟩ := h.at hM
    obtain ⟨j, r, c1, c2, c3⟩ := (comp_in hP hR x y).1 hin
    exact hg.sub (List.mem_of_getElem? c2) x y c3
  · intro hS
    obtain ⟨i, r, h1, h2⟩ := hg.find hS
    have hi := (List.getElem?_eq_some_iff.1 h1).1
    obtain ⟨j, c1, c2⟩ := least_of i i (Nat.le_refl _) hi
    obtain ⟨k, hk⟩ := List.mem_iff_getElem?.1 ((hm.mem j).2 ⟨c1.lt.2, c1.lt.2, c2⟩)
    have hkl := (List.getElem?_eq_some_iff.1 hk).1
    rw [← h.len] at hkl
    obtain ⟨P, hP, hR⟩ := h.each k j _ hk (List.getElem?_eq_getElem hkl)
    exact ⟨k, _, hkl, List.getElem?_eq_getElem hkl, (comp_in hP hR x y).2 ⟨i, r, c1.symm, h1, h2⟩⟩
theorem comp_next {S : Int → Int → Bool} {L : List R4} (hg : Geo S L) {ms : List Nat} {C : List (List R4)} (h : CompsOf L ms C) {k : Nat} {M : List R4} (hM : C[k]? = some M) {x y : Int} (hin : inL M x y = true) : inL M (x + 1) y = S (x + 1) y ∧ inL M x (y + 1) = S x (y + 1) := by
  obtain ⟨i, P, hi, hP, hR⟩ := h.at hM
  obtain ⟨j, r, c1, c2, c3⟩ := (comp_in hP hR x y).1 hin
  have sub : ∀ a b, inL M a b = true → S a b = true := fun a b hab => by
    obtain ⟨j, r, c1, c2, c3⟩ := (comp_in hP hR a b).1 hab
    exact hg.sub (List.mem_of_getElem? c2) a b c3
  constructor
  · rw [Bool.eq_iff_iff]
    refine ⟨sub _ _, fun hS => ?_⟩
    obtain ⟨m, s, d1, d2⟩ := hg.find hS
    have e := (hg.next c2 d1).1 c3 d2
    subst e
    exact (comp_in hP hR _ _).2 ⟨_, s, c1, d1, d2⟩
  · rw [Bool.eq_iff_iff]
    refine ⟨sub _ _, fun hS => ?_⟩
    obtain ⟨m, s, d1, d2⟩ := hg.find hS
    rcases (hg.next c2 d1).2 c3 d2 with e | e
    · subst e; exact (comp_in hP hR _ _).2 ⟨_, s, c1, d1, d2⟩
    · exact (comp_in hP hR _ _).2 ⟨_, s, .step c1 e, d1, d2⟩
theorem pixCount_none : pixCount (fun _ _ => false) = 0 := by
  unfold pixCount
  have : ∀ y : Int, sumI (fun x => one ((fun _ _ => false : Int → Int → Bool) x y)) (-4096) 8192 = 0 := fun y => sumI_zero _ _
  rw [sumI_congr this]
  exact sumI_zero _ _
theorem upC_area0 (C : List (List R4)) : pixCount (upC C 0) = 0 := by
  rw [pixCount_congr (upC_zero C)]
  exact pixCount_none
theorem upC_area {S : Int → Int → Bool} {L : List R4} (hg : Geo S L) {ms : List Nat} {C : List (List R4)} (hm : Mins L L.length ms) (h : CompsOf L ms C) {k : Nat} {M : List R4} (hM : C[k]? = some M) : pixCount (upC C (k + 1)) = pixCount (upC C k) + pixCount (inL M) := by
  have e := pixCount_add (upC C (k + 1)) (fun _ _ => false) (upC C k) (inL M) fun x y => by
    rw [upC_succ hM]
    cases hu : upC C k x y with
    | true => rw [comp_apart hg hm h hM hu]; simp [one]
    | false => cases inL M x y <;> simp [one]
  rw [pixCount_none] at e
  omega
/-- what Components hands back, seen component by component -/
theorem comp_region {S : Int → Int → Bool} {L : List R4} (hr : RegionOf S L) (hw : InWin S) {ms : List Nat} {C : List (List R4)} (hm : Mins L L.length ms) (h : CompsOf L ms C) {k : Nat} {M : List R4} (hM : C[k]? = some M) :
    RegionOf (inL M) M ∧ 0 < M.length ∧ M.length ≤ L.length ∧ ∀ ms', Mins M M.length ms' → ms' = [0] := by
  obtain ⟨i, P, hi, hP, hR⟩ := h.at hM
  have hg := hr.geo hw
  obtain ⟨_, hil, _⟩ := (hm.mem i).1 (List.mem_of_getElem? hi)
  refine ⟨hR.self (inL_win P), ?_, part_small hr hw (fun r hrP => ?_) hR, fun ms' hms => comp_one hg hil hP hR hms⟩
  · obtain ⟨r, hr⟩ : ∃ r, L[i]? = some r := ⟨_, List.getElem?_eq_getElem hil⟩
    have hp := rect_pixel (hg.full r (List.mem_of_getElem? hr))
    have hs := (comp_in hP hR _ _).2 ⟨i, r, .refl i hil, hr, hp⟩
    obtain ⟨q, hq, _⟩ := inL_iff.1 hs
    exact List.length_pos_of_mem hq
  · obtain ⟨j, _, hj⟩ := (hP r).1 hrP
    exact List.mem_of_getElem? hj
end Go.Reg
