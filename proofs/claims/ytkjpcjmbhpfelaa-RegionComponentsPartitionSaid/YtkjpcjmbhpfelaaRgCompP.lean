/- Components of the program: the plain law of its marks (the walk is to follow). -/
import Derived.Test.YtkjpcjmbhpfelaaRgCompR
import Derived.Test.YtkjpcjmbhpfelaaRgLLim
set_option linter.unusedVariables false
set_option linter.unusedSimpArgs false
namespace Go.Reg
open Go.Proofs.Ytkjpcjmbhpfelaa Go.Par
/-- the part gathered so far: the rectangles at J -/
def PartOf (L : List R4) (J : List Nat) (P : List R4) : Prop := P.length = J.length ∧ ∀ (t j : Nat), J[t]? = some j → ∃ r, L[j]? = some r ∧ P[t]? = some r
theorem PartOf.one {L : List R4} {i : Nat} {r : R4} (h : L[i]? = some r) : PartOf L [i] [r] := ⟨rfl, fun t j hj => by
  cases t with
  | zero => simp at hj; subst hj; exact ⟨r, h, rfl⟩
  | succ t => simp at hj⟩
theorem PartOf.snoc {L : List R4} {J : List Nat} {P : List R4} (h : PartOf L J P) {n : Nat} {r : R4} (hr : L[n]? = some r) : PartOf L (J ++ [n]) (P ++ [r]) := by
  refine ⟨by simp [h.1], fun t j hj => ?_⟩
  by_cases ht : t < J.length
  · rw [List.getElem?_append_left ht] at hj
    obtain ⟨q, h1, h2⟩ := h.2 t j hj
    exact ⟨q, h1, by rw [List.getElem?_append_left (by rw [h.1]; exact ht)]; exact h2⟩
  · rw [List.getElem?_append_right (by omega)] at hj
    have h0 : t - J.length = 0 := by
      have := (List.getElem?_eq_some_iff.1 hj).1
      simp at this
      omega
    rw [h0] at hj
    simp at hj
    subst hj
    exact ⟨r, hr, by rw [List.getElem?_append_right (by rw [h.1]; omega), h.1, h0]; rfl⟩
theorem PartOf.mem {L : List R4} {J : List Nat} {P : List R4} (h : PartOf L J P) {r : R4} : r ∈ P ↔ ∃ j, j ∈ J ∧ L[j]? = some r := by
  constructor
  · intro hr
    obtain ⟨t, ht⟩ := List.mem_iff_getElem?.1 hr
    have hl := (List.getElem?_eq_some_iff.1 ht).1
    rw [h.1] at hl
    obtain ⟨q, h1, h2⟩ := h.2 t _ (List.getElem?_eq_getElem hl)
    rw [ht] at h2; injection h2 with h2; subst h2
    exact ⟨_, List.getElem_mem _, h1⟩
  · rintro ⟨j, hj, hr⟩
    obtain ⟨t, ht⟩ := List.mem_iff_getElem?.1 hj
    obtain ⟨q, h1, h2⟩ := h.2 t j ht
    rw [hr] at h1; injection h1 with h1; subst h1
    exact List.mem_of_getElem? h2
theorem PartOf.comp {L : List R4} {i : Nat} {J : List Nat} {P : List R4} (h : PartOf L J P) (hJ : ∀ j, IConn L i j ↔ j ∈ J) : CompOf L i P := fun r => by
  rw [h.mem]
  constructor
  · rintro ⟨j, h1, h2⟩; exact ⟨j, (hJ j).2 h1, h2⟩
  · rintro ⟨j, h1, h2⟩; exact ⟨j, (hJ j).1 h1, h2⟩
/-- a selection of a region's rectangles makes no more rectangles -/
theorem part_small {S : Int → Int → Bool} {L P M : List R4} (h : RegionOf S L) (hw : InWin S) (hP : ∀ r ∈ P, r ∈ L) (hM : RegionOf (inL P) M) : M.length ≤ L.length := by
  obtain ⟨N, h1, h2⟩ := h.sel hw (fun r => decide (r ∈ P))
  have e : M = N := hM.uniq h1 (inL_congr fun r => by
    rw [List.mem_filter]
    constructor
    · intro hr; exact ⟨hP r hr, by simpa using hr⟩
    · rintro ⟨_, hr⟩; simpa using hr)
  rw [e]
  exact Nat.le_trans h2 (List.length_filter_le _ _)
/-- the marks -/
def SeenOk (L : List R4) (i : Nat) (J : List Nat) (seen : List Bool) : Prop := seen.length = L.length ∧ ∀ j, seen[j]? = some true ↔ (j < L.length ∧ SeenTo L i J j)
theorem SeenOk.start (L : List R4) : SeenOk L 0 [] (List.replicate L.length false) := ⟨by simp, fun j => by
  rw [List.getElem?_replicate]
  constructor
  · intro h; split at h <;> simp at h
  · rintro ⟨_, ⟨m, hm, _⟩ | h⟩
    · omega
    · cases h⟩
theorem SeenOk.unseen {L : List R4} {i : Nat} {J : List Nat} {seen : List Bool} (h : SeenOk L i J seen) {j : Nat} (hj : seen[j]? = some false) : ¬ SeenTo L i J j := fun k => by
  have hl := (List.getElem?_eq_some_iff.1 hj).1
  have := (h.2 j).2 ⟨by rw [← h.1]; exact hl, k⟩
  rw [hj] at this; cases this
theorem SeenOk.skip {L : List R4} {i : Nat} {seen : List Bool} (h : SeenOk L i [] seen) (hi : seen[i]? = some true) : SeenOk L (i + 1) [] seen ∧ ¬ Least L i := by
  obtain ⟨_, ⟨m, hm, hc⟩ | hx⟩ := (h.2 i).1 hi
  · refine ⟨⟨h.1, fun j => (h.2 j).trans ?_⟩, fun hl => ?_⟩
    · constructor
      · rintro ⟨h1, ⟨k, hk, hc2⟩ | h2⟩
        · exact ⟨h1, .inl ⟨k, by omega, hc2⟩⟩
        · cases h2
      · rintro ⟨h1, ⟨k, hk, hc2⟩ | h2⟩
        · by_cases e : k = i
          · subst e; exact ⟨h1, .inl ⟨m, hm, hc.trans hc2⟩⟩
          · exact ⟨h1, .inl ⟨k, by omega, hc2⟩⟩
        · cases h2
    · have := hl m hc.symm; omega
  · cases hx
theorem SeenOk.take {L : List R4} {i n : Nat} {J : List Nat} {seen : List Bool} (h : SeenOk L i J seen) (hn : n < L.length) : SeenOk L i (J ++ [n]) (seen.set n true) := by
  refine ⟨by rw [List.length_set]; exact h.1, fun j => ?_⟩
  by_cases e : n = j
  · subst e
    rw [List.getElem?_set_self (by rw [h.1]; exact hn)]
    exact ⟨fun _ => ⟨hn, .inr (by simp)⟩, fun _ => rfl⟩
  · rw [List.getElem?_set_ne e, h.2]
    unfold SeenTo
    rw [List.mem_append, List.mem_singleton]
    constructor
    · rintro ⟨h1, h2 | h2⟩
      · exact ⟨h1, .inl h2⟩
      · exact ⟨h1, .inr (.inl h2)⟩
    · rintro ⟨h1, h2 | h2 | h2⟩
      · exact ⟨h1, .inl h2⟩
      · exact ⟨h1, .inr h2⟩
      · exact absurd h2.symm e
theorem SeenOk.first {L : List R4} {i : Nat} {seen : List Bool} (h : SeenOk L i [] seen) (hi : seen[i]? = some false) (hl : i < L.length) : Flood L i [i] ∧ SeenOk L i [i] (seen.set i true) ∧ Least L i := by
  have hf := h.unseen hi
  have hfr : ∀ m, m < i → ¬ IConn L m i := fun m hm hc => hf (.inl ⟨m, hm, hc⟩)
  refine ⟨Flood.start hl hfr, h.take hl, fun j hc => ?_⟩
  rcases Nat.lt_or_ge j i with k | k
  · exact absurd hc.symm (hfr j k)
  · exact k
theorem SeenOk.last {L : List R4} {i : Nat} {J : List Nat} {seen : List Bool} (h : SeenOk L i J seen) (hJ : ∀ j, IConn L i j ↔ j ∈ J) : SeenOk L (i + 1) [] seen := by
  refine ⟨h.1, fun j => (h.2 j).trans ?_⟩
  constructor
  · rintro ⟨h1, ⟨m, hm, hc⟩ | h2⟩
    · exact ⟨h1, .inl ⟨m, by omega, hc⟩⟩
    · exact ⟨h1, .inl ⟨i, by omega, (hJ j).2 h2⟩⟩
  · rintro ⟨h1, ⟨m, hm, hc⟩ | h2⟩
    · by_cases e : m = i
      · subst e; exact ⟨h1, .inr ((hJ j).1 hc)⟩
      · exact ⟨h1, .inl ⟨m, by omega, hc⟩⟩
    · cases h2
end Go.Reg
namespace Go.Proofs.Ytkjpcjmbhpfelaa
open Go.RowKit Go.Par Go.Reg
section
variable {P : Program} {α β : Type} {E : EL P α} {F : EL P β}
/-- an own row abides the growing of a row of another type -/
theorem own_kept {w w' : World} {B B2 : Nat} {v v2 : Value} {l : List α} {ss : List β} (h : E.Own w B v l) (k : F.Own w B2 v2 ss) (ht : E.t ≠ F.t) (hg : w.grownBy w' v2.ownBlock) : E.Own w' B v l := by
  refine World.ownsRow.kept h hg ?_
  cases hv : v.ownBlock with
  | none => exact .inl rfl
  | some g =>
    refine .inr fun e => ?_
    obtain ⟨_, c1, h1⟩ := ownBlock_cells h hv.symm
    obtain ⟨_, c2, h2⟩ := ownBlock_cells k e
    rw [h1] at h2
    injection h2 with h2
    injection h2 with _ h2
    exact ht h2
/-- and the setting of a cell in a block of another type -/
theorem own_set {w : World} {B g i : Nat} {u : Value} {v : Value} {l : List α} {t : TypeId} {cs : Array Value} (h : E.Own w B v l) (hb : Box w g t cs) (ht : t ≠ E.t) : E.Own (w.setCell ⟨g, i, none⟩ u) B v l := by
  refine ⟨h.1, ?_⟩
  rcases h.2 with ⟨e, h0⟩ | ⟨g', cap, cur, e, hb', hh, rest⟩
  · exact .inl ⟨e, h0⟩
  · refine .inr ⟨g', cap, cur, e, hb', ?_, rest⟩
    have hbx : Box w g' E.t cur := hh
    exact hbx.far (p := ⟨g, i, none⟩) (fun e => by
      subst e
      have := hb.symm.trans hbx
      simp only [Option.some.injEq, Obj.cells.injEq] at this
      exact ht this.2.1) u
end
theorem RowsBox.set {w : World} {g i : Nat} {u : Value} {cs : Array Value} {ss : List (Option Addr × Nat × Nat)} {ls : List (List R4)} (h : RowsBox w ss ls) (hb : Box w g 4 cs) : RowsBox (w.setCell ⟨g, i, none⟩ u) ss ls :=
  ⟨h.1, fun j l hl => by
    obtain ⟨A, n, c, h1, h2, h3, h4⟩ := h.2 j l hl
    refine ⟨A, n, c, h1, h2, h3, fun hne => ?_⟩
    obtain ⟨g', cur, e, k2, k3⟩ := h4 hne
    refine ⟨g', cur, e, k2.far (p := ⟨g, i, none⟩) (fun e => ?_) u, k3⟩
    subst e
    have := k2.symm.trans hb
    simp only [Option.some.injEq, Obj.cells.injEq] at this
    exact absurd this.2.1 (by decide)⟩
def boolE : EL Try.prog Bool where
  enc := fun b => [.bool b]
  size := 1
  t := 4
  st := 72
  zero := .bool false
  bytes := 1
  len := fun _ => rfl
  one := fun x v hv => by simp at hv; rcases hv with rfl; rfl
  pos := by decide
  und := Try.underlying72
  info := by kernel_rfl
  zsize := rfl
  small := by decide
end Go.Proofs.Ytkjpcjmbhpfelaa
