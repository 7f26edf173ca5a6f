/- Strips: how many rectangles an intersection of strips has. Plain law: no walk stands here. -/
import Derived.Test.YtkjpcjmbhpfelaaGreatRgLaw
set_option linter.unusedVariables false
set_option linter.unusedSimpArgs false
namespace Go.Reg
open Go.Proofs.YtkjpcjmbhpfelaaGreat

/-! ## strips -/
theorem OKB.mk {B : List Band} (h1 : B.Pairwise fun a b => a.2.1 < b.1) (h2 : ∀ b ∈ B, b.1 < b.2.1 ∧ b.2.2 ≠ [] ∧ OKR b.2.2) : OKB B := by
  refine ⟨?_, fun b hb => (h2 b hb).2.2⟩
  induction B with
  | nil => trivial
  | cons b B ih =>
    obtain ⟨k1, k2⟩ := List.pairwise_cons.1 h1
    obtain ⟨m1, m2, _⟩ := h2 b List.mem_cons_self
    refine ⟨m1, m2, fun q hq => ?_, ih k2 fun c hc => h2 c (List.mem_cons_of_mem _ hc)⟩
    have := k1 q (List.mem_of_mem_head? hq)
    exact ⟨by omega, fun e => by omega⟩
theorem inB_iff {B : List Band} (h : OKB B) {x y : Int} : inB B x y = true ↔ ∃ b ∈ B, b.1 ≤ y ∧ y < b.2.1 ∧ inRuns b.2.2 x = true := by
  unfold inB
  constructor
  · intro hi
    rcases atP_mem (d := []) (P := B) (y := y) with e | ⟨p, hp, k1, k2, e⟩
    · rw [e] at hi; cases hi
    · rw [e] at hi; exact ⟨p, hp, k1, k2, hi⟩
  · rintro ⟨b, hb, h1, h2, h3⟩
    rw [h.1.at_mem hb h1 h2]; exact h3
def stripR (n : Nat) : List Run := (List.range n).map fun j => ((2 * j : Nat), (2 * j + 1 : Nat))
theorem stripR_ok (n : Nat) : OKR (stripR n) := by
  rw [OKR.iff]
  unfold stripR
  refine ⟨?_, fun r hr => ?_⟩
  · rw [List.pairwise_map]
    exact List.pairwise_lt_range.imp fun {a b} h => by dsimp only; omega
  · obtain ⟨j, _, rfl⟩ := List.mem_map.1 hr
    dsimp only; omega
def rowStrips (m : Nat) : List R4 := (List.range m).map fun i => (0, ((2 * i : Nat) : Int), 90, ((2 * i + 1 : Nat) : Int))
def colStrips (n : Nat) : List R4 := (List.range n).map fun j => (((2 * j : Nat) : Int), 0, ((2 * j + 1 : Nat) : Int), 90)
theorem rowStrips_has {m : Nat} (hm : m ≤ 45) {x y : Int} : inL (rowStrips m) x y = true ↔ 0 ≤ x ∧ x < 90 ∧ ∃ i, i < m ∧ ((2 * i : Nat) : Int) ≤ y ∧ y < ((2 * i + 1 : Nat) : Int) := by
  rw [inL_iff]
  unfold rowStrips
  constructor
  · rintro ⟨r, hr, hh⟩
    obtain ⟨i, hi, rfl⟩ := List.mem_map.1 hr
    obtain ⟨_, h1, h2, h3, h4⟩ := hasR_iff.1 hh
    exact ⟨h1, h2, i, List.mem_range.1 hi, h3, h4⟩
  · rintro ⟨h1, h2, i, hi, h3, h4⟩
    exact ⟨_, List.mem_map.2 ⟨i, List.mem_range.2 hi, rfl⟩, hasR_iff.2 ⟨empty_mk (by dsimp only; omega) (by dsimp only; omega) (by dsimp only; omega) (by dsimp only; omega) (by dsimp only; omega) (by dsimp only; omega), h1, h2, h3, h4⟩⟩
theorem colStrips_has {n : Nat} (hn : n ≤ 45) {x y : Int} : inL (colStrips n) x y = true ↔ 0 ≤ y ∧ y < 90 ∧ inRuns (stripR n) x = true := by
  rw [inL_iff, inRuns_mem]
  unfold colStrips stripR
  constructor
  · rintro ⟨r, hr, hh⟩
    obtain ⟨i, hi, rfl⟩ := List.mem_map.1 hr
    obtain ⟨_, h1, h2, h3, h4⟩ := hasR_iff.1 hh
    exact ⟨h3, h4, _, List.mem_map.2 ⟨i, hi, rfl⟩, h1, h2⟩
  · rintro ⟨h1, h2, r, hr, h3, h4⟩
    obtain ⟨i, hi, rfl⟩ := List.mem_map.1 hr
    have hi' := List.mem_range.1 hi
    exact ⟨_, List.mem_map.2 ⟨i, hi, rfl⟩, hasR_iff.2 ⟨empty_mk (by dsimp only; omega) (by dsimp only; omega) (by dsimp only; omega) (by dsimp only; omega) (by dsimp only; omega) (by dsimp only; omega), h3, h4, h1, h2⟩⟩
theorem stripR_in {n : Nat} (hn : n ≤ 45) {x : Int} (h : inRuns (stripR n) x = true) : 0 ≤ x ∧ x < 90 := by
  obtain ⟨r, hr, h1, h2⟩ := inRuns_mem.1 h
  obtain ⟨j, hj, rfl⟩ := List.mem_map.1 hr
  have := List.mem_range.1 hj
  dsimp only at h1 h2
  omega
theorem grid_region {m n : Nat} (hm : m ≤ 45) (hn : n ≤ 45) {S : Int → Int → Bool} (hS : ∀ x y, S x y = (inL (rowStrips m) x y && inL (colStrips n) x y)) {L : List R4} (hL : RegionOf S L) : L.length = m * n := by
  rcases Nat.eq_zero_or_pos n with h0 | h0
  · subst h0
    have : L = rectsB [] := hL.uniq (T := fun _ _ => false) ⟨[], ⟨trivial, fun b hb => by cases hb⟩, fun _ _ => rfl, rfl⟩ fun x y => by
      rw [hS]; simp [colStrips, inL]
    rw [this]; rfl
  · have hok : OKB ((List.range m).map fun i => ((((2 * i : Nat) : Int), ((2 * i + 1 : Nat) : Int), stripR n) : Band)) := OKB.mk (by
        rw [List.pairwise_map]
        exact List.pairwise_lt_range.imp fun {a b} h => by dsimp only; omega) fun b hb => by
        obtain ⟨i, _, rfl⟩ := List.mem_map.1 hb
        refine ⟨by dsimp only; omega, fun e => ?_, stripR_ok n⟩
        have := congrArg List.length e
        simp [stripR] at this
        omega
    have : L = rectsB ((List.range m).map fun i => ((((2 * i : Nat) : Int), ((2 * i + 1 : Nat) : Int), stripR n) : Band)) := hL.uniq ⟨_, hok, fun _ _ => rfl, rfl⟩ fun x y => by
      rw [hS, Bool.eq_iff_iff, inB_iff hok, Bool.and_eq_true, rowStrips_has hm, colStrips_has hn]
      constructor
      · rintro ⟨⟨h1, h2, i, hi, h3, h4⟩, h5, h6, h7⟩
        exact ⟨_, List.mem_map.2 ⟨i, List.mem_range.2 hi, rfl⟩, h3, h4, h7⟩
      · rintro ⟨b, hb, h3, h4, h7⟩
        obtain ⟨i, hi, rfl⟩ := List.mem_map.1 hb
        have hi' := List.mem_range.1 hi
        obtain ⟨k1, k2⟩ := stripR_in hn h7
        dsimp only at h3 h4
        exact ⟨⟨k1, k2, i, hi', h3, h4⟩, by omega, by omega, h7⟩
    rw [this]
    unfold rectsB
    rw [List.flatMap_map]
    have key : ∀ l : List Nat, (l.flatMap fun i => (stripR n).map fun r => ((r.1, ((2 * i : Nat) : Int), r.2, ((2 * i + 1 : Nat) : Int)) : R4)).length = l.length * n := fun l => by
      induction l with
      | nil => simp
      | cons a l ih => rw [List.flatMap_cons, List.length_append, ih, List.length_cons, Nat.add_mul, List.length_map]; simp [stripR]; omega
    have := key (List.range m)
    rw [List.length_range] at this
    exact this
theorem col_region {n : Nat} (hn : n ≤ 45) {S : Int → Int → Bool} (hS : ∀ x y, S x y = inL (colStrips n) x y) {L : List R4} (hL : RegionOf S L) : L.length = n := by
  rcases Nat.eq_zero_or_pos n with h0 | h0
  · subst h0
    have : L = rectsB [] := hL.uniq (T := fun _ _ => false) ⟨[], ⟨trivial, fun b hb => by cases hb⟩, fun _ _ => rfl, rfl⟩ fun x y => by
      rw [hS]; simp [colStrips, inL]
    rw [this]; rfl
  · have hok : OKB [((0, 90, stripR n) : Band)] := OKB.mk (List.pairwise_singleton _ _) fun b hb => by
        rw [List.mem_singleton.1 hb]
        refine ⟨by dsimp only; omega, fun e => ?_, stripR_ok n⟩
        have := congrArg List.length e
        simp [stripR] at this
        omega
    have : L = rectsB [((0, 90, stripR n) : Band)] := hL.uniq ⟨_, hok, fun _ _ => rfl, rfl⟩ fun x y => by
      rw [hS, Bool.eq_iff_iff, inB_iff hok, colStrips_has hn]
      constructor
      · rintro ⟨h1, h2, h3⟩; exact ⟨_, List.mem_singleton.2 rfl, h1, h2, h3⟩
      · rintro ⟨b, hb, h1, h2, h3⟩; rw [List.mem_singleton.1 hb] at h1 h2 h3; exact ⟨h1, h2, h3⟩
    rw [this]
    simp [rectsB, stripR]
theorem none_region {S : Int → Int → Bool} (hS : ∀ x y, S x y = false) {L : List R4} (hL : RegionOf S L) : L = [] :=
  hL.uniq (T := fun _ _ => false) ⟨[], ⟨trivial, fun b hb => by cases hb⟩, fun _ _ => rfl, rfl⟩ hS
theorem inL_zeros (n : Nat) (x y : Int) : inL (List.replicate n (0, 0, 0, 0)) x y = false := by
  rw [Bool.eq_false_iff]
  intro e
  obtain ⟨r, hr, hh⟩ := inL_iff.1 e
  rw [List.eq_of_mem_replicate hr] at hh
  cases (hasR_iff.1 hh).1

end Go.Reg
